/- An element of an array by value. No program walked. -/
import Derived.Test.YtmdbcknlipahgaaDoorBoxed
namespace Go.Proofs.YtmdbcknlipahgaaDoor
open Go Go.RowKit
theorem run_index_arr {P : Program} (w : World) (t : TypeId) (cs : Array Value) (k : IntKind) (i : Int) (h : P.underlying t = some (.array (P.arrayLen t) (P.elem t))) :
    (Instr.index t (.agg cs) (.int k i)).run P w =
      if 0 ≤ i ∧ i < P.arrayLen t then ((sizeOf (P.elem t)).run P w).andThen fun s w => (part (P.elem t) cs (i.toNat * s)).run P w
      else (boundsPanic k i (P.arrayLen t) .index).run P w := by
  by_cases hi : 0 ≤ i ∧ i < P.arrayLen t
  · simp [Instr.index, run_underlying h, asIntOf, hi, go_sem]
  · simp [Instr.index, run_underlying h, asIntOf, go_sem]
end Go.Proofs.YtmdbcknlipahgaaDoor
