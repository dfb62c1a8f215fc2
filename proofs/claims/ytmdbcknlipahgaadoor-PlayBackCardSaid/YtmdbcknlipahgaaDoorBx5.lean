/- Boxes of cells, read whole. -/
import Derived.Test.YtmdbcknlipahgaaDoorBoxed
import Derived.Deep.LoopGhost
import Derived.Deep.DeepCutAuto
import Derived.IntWalk
namespace Go.Proofs.YtmdbcknlipahgaaDoor
open Go.RowKit
theorem Bx.one' {w : World} {g : Nat} {a : Value} (h : Bx w g [a]) : w.cell? ⟨g, 0, none⟩ = some a ∧ w.frozen? ⟨g, 0, none⟩ = false := by
  have h1 := h.one
  obtain ⟨t, h⟩ := h
  exact ⟨h1, frozen_of_row w g 0 _ _ h⟩
theorem Bx.at {w : World} {g i : Nat} {cs : List Value} {u : Value} (h : Bx w g cs) (hi : cs[i]? = some u) : w.cell? ⟨g, i, none⟩ = some u ∧ w.frozen? ⟨g, i, none⟩ = false := by
  obtain ⟨t, h⟩ := h
  refine ⟨?_, frozen_of_row w g i _ _ h⟩
  rw [cell_of_row w g i _ _ _ h]
  simpa using hi
theorem Bx.five {w : World} {g : Nat} {a b c d e : Value} (h : Bx w g [a, b, c, d, e]) :
    w.cell? ⟨g, 0, none⟩ = some a ∧ w.cell? ⟨g, 1, none⟩ = some b ∧ w.cell? ⟨g, 2, none⟩ = some c ∧ w.cell? ⟨g, 3, none⟩ = some d ∧ w.cell? ⟨g, 4, none⟩ = some e :=
  ⟨(h.at rfl).1, (h.at rfl).1, (h.at rfl).1, (h.at rfl).1, (h.at rfl).1⟩
theorem Bx.fiveF {w : World} {g : Nat} {a b c d e : Value} (h : Bx w g [a, b, c, d, e]) :
    w.frozen? ⟨g, 0, none⟩ = false ∧ w.frozen? ⟨g, 1, none⟩ = false ∧ w.frozen? ⟨g, 2, none⟩ = false ∧ w.frozen? ⟨g, 3, none⟩ = false ∧ w.frozen? ⟨g, 4, none⟩ = false := by
  obtain ⟨t, h⟩ := h
  exact ⟨frozen_of_row w g 0 _ _ h, frozen_of_row w g 1 _ _ h, frozen_of_row w g 2 _ _ h, frozen_of_row w g 3 _ _ h, frozen_of_row w g 4 _ _ h⟩
theorem grown_of_belowO {w w' : World} {o : Option Nat} (hb : Below w.heap.size w w') : w.grownBy w' o :=
  ⟨hb.os, hb.tape, hb.output, hb.size, fun k hk _ => hb.block k hk⟩
theorem sl_grownO {w w' : World} {size : Nat} {v : Value} {n : Nat} {xs : List Value} {o : Option Nat} (h : Sl w size v n xs) (hg : w.grownBy w' o) (ho : ∀ b off, v = .slice (some ⟨b, off, none⟩) n (match v with | .slice _ _ c => c | _ => 0) → o ≠ some b) : Sl w' size v n xs := by
  obtain ⟨p, cap, rfl, h1, h2, h3, h4, h5⟩ := h
  refine ⟨p, cap, rfl, h1, h2, h3, h4, ?_⟩
  rcases h5 with h5 | ⟨b, off, rfl, h5⟩
  · exact .inl h5
  · exact .inr ⟨b, off, rfl, fun j u hj => by rw [World.cell?_of_block (hg.block b (World.block_lt_of_cell? w _ (h5 j u hj)) (fun e => ho b off rfl e.symm))]; exact h5 j u hj⟩
end Go.Proofs.YtmdbcknlipahgaaDoor
