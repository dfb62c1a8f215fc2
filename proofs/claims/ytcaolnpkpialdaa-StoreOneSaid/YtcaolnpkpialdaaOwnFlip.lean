/- A byte of a row of the call's own turned. -/
import Derived.Test.YtcaolnpkpialdaaSum
import Derived.Test.YtcaolnpkpialdaaOwn2
namespace Go.Proofs.Ytcaolnpkpialdaa
open Go.RowKit
theorem bys_set (l : List Nat) (i x : Nat) : bys (l.set i x) = (bys l).set i (.int .u8 (x : Int)) := by simp [bys, List.map_set]
/-- a byte of a row of the call's own turned -/
theorem own_flip {w : World} {base : Nat} {e : TypeId} {g cap n : Nat} {l : List Nat} (h : w.ownsRow base e 1 (.slice (some ⟨g, 0, none⟩) n cap) n (bys l)) (hl : AllB l) {i c : Nat} (hi : i < n) (hc : c < 256) :
    ∃ x : Nat, x < 256 ∧ w.cell? ⟨g, i, none⟩ = some (.int .u8 (x : Int)) ∧ w.frozen? ⟨g, i, none⟩ = false ∧
      (w.setCell ⟨g, i, none⟩ (.int .u8 (bits .xor .u8 (x : Int) (c : Int)))).ownsRow base e 1 (.slice (some ⟨g, 0, none⟩) n cap) n (bys (flip l i c)) ∧
      w.grownBy (w.setCell ⟨g, i, none⟩ (.int .u8 (bits .xor .u8 (x : Int) (c : Int)))) (some g) := by
  have hn : n = l.length := by have := h.1; simpa [bys] using this.symm
  subst hn
  have hx : l[i] < 256 := hl _ (List.getElem_mem hi)
  have hcell := h.cellAt i (by omega)
  rw [bys_get hi] at hcell
  have hs := h.stored i (.int .u8 (bits .xor .u8 ((l[i] : Nat) : Int) (c : Int)))
  refine ⟨l[i], hx, hcell, h.frozenAt i, ?_, hs.2⟩
  have e : bys (flip l i c) = (bys l).set i (.int .u8 (bits .xor .u8 ((l[i] : Nat) : Int) (c : Int))) := by
    unfold flip
    rw [bys_set, u8_xor_nat _ _ hx hc, List.getD_eq_getElem?_getD, List.getElem?_eq_getElem hi]
    rfl
  rw [e]
  exact hs.1
end Go.Proofs.Ytcaolnpkpialdaa
