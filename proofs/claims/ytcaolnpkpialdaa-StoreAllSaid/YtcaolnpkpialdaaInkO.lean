/- Bytes that are written, with the block in which they lie; what stays as it was meanwhile. -/
import Derived.Test.YtcaolnpkpialdaaEncPut
import Derived.Test.YtcaolnpkpialdaaPGaps
namespace Go.Proofs.Ytcaolnpkpialdaa
open Go.RowKit
/-- bytes that are written: the box at g; its row is the writer's own, and lies in the block o -/
def InkO (w : World) (B g : Nat) (acc : List Nat) (o : Option Nat) : Prop :=
  ∃ (p : Option Addr) (n c : Nat), Bx w g [.slice p n c] ∧ w.ownsRow B 5 1 (.slice p n c) n (bys acc) ∧ (Value.slice p n c).ownBlock = o
theorem InkO.keep {w w' : World} {B g : Nat} {acc : List Nat} {o : Option Nat} (h : InkO w B g acc o) (hb : Below w.heap.size w w') : InkO w' B g acc o := by
  obtain ⟨p, n, c, h1, h2, h3⟩ := h
  exact ⟨p, n, c, h1.next hb, own_later h2 hb, h3⟩
theorem InkO.lt {w : World} {B g : Nat} {acc : List Nat} {o : Option Nat} (h : InkO w B g acc o) : ∀ k, o = some k → B ≤ k ∧ k < w.heap.size := by
  obtain ⟨p, n, c, h1, h2, h3⟩ := h
  intro k hk
  rw [← h3] at hk
  exact h2.lt k hk
theorem InkO.box {w : World} {B g : Nat} {acc : List Nat} {o : Option Nat} (h : InkO w B g acc o) : g < w.heap.size := by
  obtain ⟨p, n, c, h1, h2, h3⟩ := h
  exact h1.lt
/-- all blocks but that of the box and that of the row are as they were -/
def KeepB (w w' : World) (g : Nat) (o : Option Nat) : Prop := ∀ b, b < w.heap.size → b ≠ g → o ≠ some b → w'.heap[b]? = w.heap[b]?
/-- a row's block is the elder one, or a new one -/
def NewO (w : World) (o o' : Option Nat) : Prop := o' = o ∨ ∃ k, w.heap.size ≤ k ∧ o' = some k
theorem KeepB.refl (w : World) (g : Nat) (o : Option Nat) : KeepB w w g o := fun _ _ _ _ => rfl
theorem KeepB.of_below {w w' : World} (h : Below w.heap.size w w') (g : Nat) (o : Option Nat) : KeepB w w' g o := fun b hb _ _ => h.block b hb
theorem KeepB.of_grown {w w' : World} {o : Option Nat} (h : w.grownBy w' o) (g : Nat) : KeepB w w' g o := fun b hb _ ho => h.block b hb (fun e => ho e.symm)
theorem KeepB.set {w w' : World} {g : Nat} {o : Option Nat} (h : KeepB w w' g o) (i : Nat) (u : Value) : KeepB w (w'.setCell ⟨g, i, none⟩ u) g o := fun b hb hg ho => by
  rw [← h b hb hg ho]
  exact heap_setCell_other w' ⟨g, i, none⟩ b u (fun e => hg (by simpa using e))
theorem KeepB.step {w w1 w2 : World} {g : Nat} {o o1 : Option Nat} (h : KeepB w w1 g o) (ho : NewO w o o1) (hs : w.heap.size ≤ w1.heap.size) (h2 : KeepB w1 w2 g o1) : KeepB w w2 g o := fun b hb hg hob => by
  rw [← h b hb hg hob]
  refine h2 b (by omega) hg (fun e => ?_)
  rcases ho with rfl | ⟨k, hk, rfl⟩
  · exact hob e
  · cases e; omega
theorem NewO.refl (w : World) (o : Option Nat) : NewO w o o := .inl rfl
theorem NewO.step {w w1 : World} {o o1 o2 : Option Nat} (h : NewO w o o1) (hs : w.heap.size ≤ w1.heap.size) (h2 : NewO w1 o1 o2) : NewO w o o2 := by
  rcases h2 with rfl | ⟨k, hk, rfl⟩
  · exact h
  · exact .inr ⟨k, by omega, rfl⟩
theorem NewO.far {w : World} {o o' : Option Nat} (h : NewO w o o') {b : Nat} (hb : b < w.heap.size) (ho : o ≠ some b) : o' ≠ some b := by
  rcases h with rfl | ⟨k, hk, rfl⟩
  · exact ho
  · intro e; cases e; omega
theorem Sl.keepB {w w' : World} {size : Nat} {p : Option Addr} {n m c : Nat} {xs : List Value} {g : Nat} {o : Option Nat} (h : Sl w size (.slice p n c) m xs) (hk : KeepB w w' g o) (hf : ∀ b off, p = some ⟨b, off, none⟩ → b ≠ g ∧ o ≠ some b) : Sl w' size (.slice p n c) m xs := by
  obtain ⟨p', cap, he, h1, h2, h3, h4, h5⟩ := h
  cases he
  refine ⟨p, c, rfl, h1, h2, h3, h4, ?_⟩
  rcases h5 with h5 | ⟨b, off, rfl, h5⟩
  · exact .inl h5
  · exact .inr ⟨b, off, rfl, fun j u hj => by
      obtain ⟨f1, f2⟩ := hf b off rfl
      rw [World.cell?_of_block (hk b (World.block_lt_of_cell? w _ (h5 j u hj)) f1 f2)]
      exact h5 j u hj⟩
theorem Bx.keepB {w w' : World} {b g : Nat} {cs : List Value} {o : Option Nat} (h : Bx w b cs) (hk : KeepB w w' g o) (hg : b ≠ g) (ho : o ≠ some b) : Bx w' b cs := by
  have hl := h.lt
  obtain ⟨t, h⟩ := h
  exact ⟨t, by rw [hk b hl hg ho]; exact h⟩
/-- ends of hops as gaps, and their weights -/
def hopL (l : List (Nat × Nat)) : List Nat := gapsL (l.map (·.1)) ++ putsN (l.map (·.2))
end Go.Proofs.Ytcaolnpkpialdaa
