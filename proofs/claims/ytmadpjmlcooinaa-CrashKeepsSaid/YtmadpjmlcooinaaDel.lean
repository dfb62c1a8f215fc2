/- The walk of slices.DeleteFunc over files of which one at most has the name. -/
import Derived.Test.YtmadpjmlcooinaaFind
import Derived.Test.YtmadpjmlcooinaaDk2
import Derived.IntWalk
namespace Go.Proofs.Ytmadpjmlcooinaa
open Go.RowKit
/-- the files behind k moves -/
def shL (l : List (Fl × Value)) (ix k : Nat) : List (Fl × Value) := l.take ix ++ ((l.drop (ix + 1)).take k ++ l.drop (ix + k))
theorem shL_len {l : List (Fl × Value)} {ix k : Nat} (h : ix + 1 + k ≤ l.length) : (shL l ix k).length = l.length := by
  unfold shL
  simp only [List.length_append, List.length_take, List.length_drop]
  omega
theorem shL_far {l : List (Fl × Value)} {ix k j : Nat} (h : ix + 1 + k ≤ l.length) (hj : ix + k ≤ j) : (shL l ix k)[j]? = l[j]? := by
  unfold shL
  rw [List.getElem?_append_right (by rw [List.length_take]; omega), List.length_take, Nat.min_eq_left (by omega), List.getElem?_append_right (by rw [List.length_take, List.length_drop]; omega), List.length_take, List.length_drop, Nat.min_eq_left (by omega), List.getElem?_drop]
  congr 1; omega
theorem shL_pre {l : List (Fl × Value)} {ix k j : Nat} (h : ix + 1 + k ≤ l.length) (hj : j < ix) : (shL l ix k)[j]? = l[j]? := by
  unfold shL
  rw [List.getElem?_append_left (by rw [List.length_take]; omega), List.getElem?_take_of_lt hj]
theorem shL_mid {l : List (Fl × Value)} {ix k j : Nat} (h : ix + 1 + k ≤ l.length) (hj : ix ≤ j) (hk : j < ix + k) : (shL l ix k)[j]? = l[j + 1]? := by
  unfold shL
  rw [List.getElem?_append_right (by rw [List.length_take]; omega), List.length_take, Nat.min_eq_left (by omega), List.getElem?_append_left (by rw [List.length_take, List.length_drop, Nat.min_eq_left (by omega)]; omega), List.getElem?_take_of_lt (by omega), List.getElem?_drop]
  congr 1; omega
theorem shL_step {l : List (Fl × Value)} {ix k : Nat} (h : ix + 1 + k < l.length) : (shL l ix k).set (ix + k) l[ix + 1 + k] = shL l ix (k + 1) := by
  apply List.ext_getElem?
  intro j
  rw [List.getElem?_set, shL_len (by omega)]
  by_cases hj : ix + k = j
  · subst hj
    rw [if_pos rfl, if_pos (by omega), shL_mid (by omega) (by omega) (by omega), show ix + k + 1 = ix + 1 + k by omega, List.getElem?_eq_getElem h]
  · rw [if_neg hj]
    by_cases hlt : j < ix
    · rw [shL_pre (by omega) hlt, shL_pre (by omega) hlt]
    · by_cases hlt2 : j < ix + k
      · rw [shL_mid (by omega) (by omega) hlt2, shL_mid (by omega) (by omega) (by omega)]
      · rw [shL_far (by omega) (by omega), shL_far (by omega) (by omega)]
theorem shL_zero (l : List (Fl × Value)) (ix : Nat) : shL l ix 0 = l := by simp [shL]
theorem shL_end {l : List (Fl × Value)} {ix m : Nat} (h : l.length = m + 1) (hi : ix < m + 1) : ∃ x, shL l ix (m - ix) = l.eraseIdx ix ++ [x] := by
  refine ⟨l[m]'(by omega), ?_⟩
  unfold shL
  rw [← List.append_assoc, List.eraseIdx_eq_take_drop_succ]
  congr 1
  · congr 1
    exact List.take_of_length_le (by rw [List.length_drop]; omega)
  · rw [show ix + (m - ix) = m by omega, List.drop_eq_getElem_cons (by omega), List.drop_eq_nil_of_le (by omega)]
theorem dkC_put {l : List (Fl × Value)} {i : Nat} (hi : i < l.length) (f : Fl) (v : Value) : dkC (l.set i (f, v)) = (((dkC l).set (i * 3) (.string f.nm)).set (i * 3 + 1) v).set (i * 3 + 2) (.int .i64 (f.sy : Int)) := by
  have h1 := dkC_set (f' := { l[i].1 with nm := f.nm }) (v' := l[i].2) hi (j := 0) (by decide) (u := .string f.nm) rfl
  have h2 := dkC_set (l := l.set i ({ l[i].1 with nm := f.nm }, l[i].2)) (f' := { l[i].1 with nm := f.nm }) (v' := v) (i := i) (j := 1) (by rw [List.length_set]; exact hi) (by decide) (u := v) (by simp [flC])
  have h3 := dkC_set (l := l.set i ({ l[i].1 with nm := f.nm }, v)) (f' := f) (v' := v) (i := i) (j := 2) (by rw [List.length_set]; exact hi) (by decide) (u := .int .i64 (f.sy : Int)) (by simp [flC])
  rw [List.set_set] at h2 h3
  rw [h3, h2, h1]
  rfl
end Go.Proofs.Ytmadpjmlcooinaa
