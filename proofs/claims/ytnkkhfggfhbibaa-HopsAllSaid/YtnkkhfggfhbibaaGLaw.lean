/- What the walks of the laws of graphs share. -/
import Derived.Test.YtnkkhfggfhbibaaMade
import Derived.Test.YtnkkhfggfhbibaaSameG
namespace Go.Proofs.Ytnkkhfggfhbibaa
open Go.RowKit
theorem alloc_below (w : World) (o : Obj) : Below w.heap.size w (w.alloc o) := (Below.refl _ w).alloc (Nat.le_refl _) o
/-- a call behind a box: what was there is as it was, and so is the box -/
theorem boxed {w1 w2 : World} {cs : List Value} {t : TypeId} (h : Below (w1.alloc (.cells cs.toArray t)).heap.size (w1.alloc (.cells cs.toArray t)) w2) : Below w1.heap.size w1 w2 ∧ Bx w2 w1.heap.size cs ∧ w1.heap.size + 1 ≤ w2.heap.size := by
  have e : (w1.alloc (.cells cs.toArray t)).heap.size = w1.heap.size + 1 := by simp
  refine ⟨(alloc_below w1 _).trans (h.mono (by omega)), (bx_new w1 cs t).later h (by omega), ?_⟩
  have := h.size
  omega
theorem boxed0 (w1 : World) (cs : List Value) (t : TypeId) : Below w1.heap.size w1 (w1.alloc (.cells cs.toArray t)) ∧ Bx (w1.alloc (.cells cs.toArray t)) w1.heap.size cs ∧ w1.heap.size + 1 ≤ (w1.alloc (.cells cs.toArray t)).heap.size :=
  boxed (Below.refl _ _)
theorem Bx.next {w w' : World} {g : Nat} {cs : List Value} (h : Bx w g cs) (hb : Below w.heap.size w w') : Bx w' g cs := h.later hb h.lt
theorem below_next {B : Nat} {w w1 w2 : World} (h : Below B w w1) (hB : B ≤ w.heap.size) (h2 : Below w1.heap.size w1 w2) : Below B w w2 := h.trans (h2.mono (Nat.le_trans hB h.size))
end Go.Proofs.Ytnkkhfggfhbibaa
