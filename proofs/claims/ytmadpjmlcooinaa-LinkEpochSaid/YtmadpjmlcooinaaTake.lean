/- The beginning of a readable slice. -/
import Derived.Test.YtmadpjmlcooinaaRead
import Derived.Test.YtmadpjmlcooinaaOwn3
import Derived.Test.YtmadpjmlcooinaaPosts
namespace Go.Proofs.Ytmadpjmlcooinaa
open Go.RowKit
theorem Sl.takek {w : World} {size : Nat} {p : Option Addr} {c n k : Nat} {xs : List Value} (h : Sl w size (.slice p n c) n xs) (hk : k ≤ n) : Sl w size (.slice p k c) k (xs.take (k * size)) := by
  obtain ⟨p', c', hp, h1, h2, h3, h4, h5⟩ := h
  cases hp
  refine ⟨p, c, rfl, by omega, h2, ?_, h4, ?_⟩
  · rw [List.length_take, h3]; exact Nat.min_eq_left (Nat.mul_le_mul_right _ hk)
  · rcases h5 with rfl | ⟨b, off, rfl, h5⟩
    · exact .inl (by simp)
    · refine .inr ⟨b, off, rfl, fun j u hj => h5 j u ?_⟩
      rw [List.getElem?_take] at hj
      split at hj
      · exact hj
      · cases hj
theorem rws_take {k : Nat} : ∀ (l : List (List Int)), (∀ r ∈ l, r.length = k) → ∀ j, (rws l).take (j * k) = rws (l.take j) := by
  intro l
  induction l with
  | nil => intro _ j; simp [rws]
  | cons a l ih =>
    intro h j
    cases j with
    | zero => simp [rws]
    | succ j =>
      have ha : (its a).length = k := by simp [its, h a (by simp)]
      show (its a ++ rws l).take _ = its a ++ rws (l.take j)
      rw [List.take_append, ha, Nat.succ_mul, List.take_of_length_le (by omega), Nat.add_sub_cancel, ih (fun r hr => h r (by simp [hr])) j]
theorem IsR.take {k : Nat} {w : World} {p : Option Addr} {c n : Nat} {l : List (List Int)} (h : IsR k w (.slice p n c) l) {j : Nat} (hj : j ≤ n) : IsR k w (.slice p j c) (l.take j) := by
  obtain ⟨rfl, _⟩ := h.lens
  have h1 := h.1.takek hj
  rw [rws_take l (fun r hr => (h.2 r hr).1) j] at h1
  have e : (l.take j).length = j := by rw [List.length_take]; omega
  refine ⟨by rw [e]; exact h1, fun r hr => h.2 r (List.mem_of_mem_take hr)⟩
theorem mcs_take (l : List (Nat × Nat)) (k : Nat) : (mcs l).take (k * 2) = mcs (l.take k) := by
  induction l generalizing k with
  | nil => simp [mcs]
  | cons a l ih =>
    cases k with
    | zero => simp [mcs]
    | succ k =>
      rw [show (k + 1) * 2 = k * 2 + 1 + 1 from by omega]
      show ([_, _] ++ mcs l).take _ = [_, _] ++ mcs (l.take k)
      rw [← ih k]; rfl
end Go.Proofs.Ytmadpjmlcooinaa
