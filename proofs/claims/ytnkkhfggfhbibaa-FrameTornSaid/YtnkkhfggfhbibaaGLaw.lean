/- What the walks of the laws of graphs share. -/
import Derived.Test.YtnkkhfggfhbibaaMade
import Derived.Test.YtnkkhfggfhbibaaSameG
namespace Go.Proofs.Ytnkkhfggfhbibaa
open Go.RowKit
theorem alloc_below (w : World) (o : Obj) : Below w.heap.size w (w.alloc o) := (Below.refl _ w).alloc (Nat.le_refl _) o
/-- a call behind a box: what was there is as it was, and so is the box -/
theorem boxed {w1 w2 : World} {cs : List Value} {t : TypeId} (h : Below (w1.alloc (.cells cs.toArray t)).heap.size (w1.alloc (.cells cs.toArray t)) w2) : Below w1.heap.size w1 w2 ∧ Bx w2 w1.heap.size cs ∧ w1.heap.size + 1 ≤ w2.heap.size := by
  have e : (w1.alloc (.cells cs.toArray t)).heap.size = w1.heap.size + 1 := by simp
  refine ⟨(alloc_below w1 _).trans (h.mono (by omega)), (bx_new w1 cs t).later h (by omega), ?_⟩
  have := h.size
  omega
theorem boxed0 (w1 : World) (cs : List Value) (t : TypeId) : Below w1.heap.size w1 (w1.alloc (.cells cs.toArray t)) ∧ Bx (w1.alloc (.cells cs.toArray t)) w1.heap.size cs ∧ w1.heap.size + 1 ≤ (w1.alloc (.cells cs.toArray t)).heap.size :=
  boxed (Below.refl _ _)
theorem own_grown {w w' : World} {B : Nat} {e : TypeId} {size : Nat} {v : Value} {n : Nat} {xs : List Value} {o : Option Nat} (h : w.ownsRow B e size v n xs) (hg : w.grownBy w' o) (ho : ∀ k, v.ownBlock = some k → o ≠ some k) : w'.ownsRow B e size v n xs := by
  refine ⟨h.1, ?_⟩
  rcases h.2 with hn | ⟨g, cap, cur, rfl, h1, h2, h3⟩
  · exact .inl hn
  · exact .inr ⟨g, cap, cur, rfl, h1, by rw [hg.block g (Array.getElem?_eq_some_iff.1 h2).1 (fun e => ho g rfl e.symm)]; exact h2, h3⟩
theorem Bx.next {w w' : World} {g : Nat} {cs : List Value} (h : Bx w g cs) (hb : Below w.heap.size w w') : Bx w' g cs := h.later hb h.lt
theorem below_next {B : Nat} {w w1 w2 : World} (h : Below B w w1) (hB : B ≤ w.heap.size) (h2 : Below w1.heap.size w1 w2) : Below B w w2 := h.trans (h2.mono (Nat.le_trans hB h.size))
end Go.Proofs.Ytnkkhfggfhbibaa
