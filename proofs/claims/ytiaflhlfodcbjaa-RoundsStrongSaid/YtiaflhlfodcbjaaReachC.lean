/- Cells of what is reached. -/
import Derived.Test.YtiaflhlfodcbjaaSearch
import Derived.Test.YtiaflhlfodcbjaaHopsP
import Derived.Test.YtiaflhlfodcbjaaCheck

namespace Go.Proofs.Ytiaflhlfodcbjaa
open Go.RowKit
theorem inf_bool : (Try.prog.info? 4).map (fun i => (i.zero, i.size, i.bytes)) = some (some (.bool false), 1, 1) := by kernel_rfl
theorem own_bool {w : World} {B g N x : Nat} {s : List Bool} {b : Bool} (h : w.ownsRow B 4 1 (.slice (some ⟨g, 0, none⟩) N N) N (bls s)) (hx : x < N) (hb : s[x]? = some b) : w.cell? ⟨g, x, none⟩ = some (.bool b) := by
  rw [h.cellAt x (by omega), bls_at hb]
open Classical in
theorem reach_cell {w : World} {B g N x v : Nat} {E : List Eg} (h : w.ownsRow B 4 1 (.slice (some ⟨g, 0, none⟩) N N) N (bls (reachL N E v))) (hx : x < N) : (Rch E v x → w.cell? ⟨g, x, none⟩ = some (.bool true)) ∧ (¬ Rch E v x → w.cell? ⟨g, x, none⟩ = some (.bool false)) := by
  refine ⟨fun hr => ?_, fun hr => ?_⟩
  · exact own_bool h hx ((reachL_at hx).2 hr)
  · refine own_bool h hx ?_
    rw [reachL_get hx, decide_eq_false hr]
end Go.Proofs.Ytiaflhlfodcbjaa
