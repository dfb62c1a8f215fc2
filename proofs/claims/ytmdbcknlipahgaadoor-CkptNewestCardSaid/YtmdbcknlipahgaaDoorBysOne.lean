/- Bytes are of one cell each. -/
import Derived.Test.YtmdbcknlipahgaaDoorOwn
namespace Go.Proofs.YtmdbcknlipahgaaDoor
open Go.RowKit
theorem bys_one (l : List Nat) : ∀ u ∈ bys l, u.oneCell' = true := by
  intro u hu
  obtain ⟨x, _, rfl⟩ := List.mem_map.1 hu
  rfl
end Go.Proofs.YtmdbcknlipahgaaDoor
