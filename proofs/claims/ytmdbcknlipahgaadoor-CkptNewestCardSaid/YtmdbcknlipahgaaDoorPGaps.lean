/- Plain facts on lists that rise, packed as gaps. -/
import Derived.Test.YtmdbcknlipahgaaDoorPGet
namespace Go.Proofs.YtmdbcknlipahgaaDoor
open Go.RowKit
/-- the greatest number of a gap, behind a name -/
def MaxN : Nat := 1152921504606846976
/-- it rises, from a number on, and stays below the greatest -/
def RiseF : Nat → List Nat → Prop
  | _, [] => True
  | last, n :: r => last ≤ n ∧ n ≤ MaxN ∧ RiseF n r
def gapsF : Nat → List Nat → List Nat
  | _, [] => []
  | last, n :: r => put (n - last) ++ gapsF n r
def gapsL (l : List Nat) : List Nat := put l.length ++ gapsF 0 l
def ungapF (b : List Nat) : Nat → Nat → Nat → List Nat → List Nat × Nat × Nat
  | 0, used, _, acc => (acc, used, 0)
  | m + 1, used, last, acc =>
    if (getL (b.drop used)).2.2 ≠ 0 then ([], 0, (getL (b.drop used)).2.2)
    else if MaxN < (getL (b.drop used)).1 ∨ MaxN < last + (getL (b.drop used)).1 then ([], 0, 2)
    else ungapF b m (used + (getL (b.drop used)).2.1) (last + (getL (b.drop used)).1) (acc ++ [last + (getL (b.drop used)).1])
def ungapL (b : List Nat) : List Nat × Nat × Nat :=
  if (getL b).2.2 ≠ 0 then ([], 0, (getL b).2.2)
  else if 2000 < (getL b).1 then ([], 0, 1)
  else ungapF b (getL b).1 (getL b).2.1 0 []

theorem ungapF_err {b : List Nat} {m used last : Nat} {acc : List Nat} {N k e : Nat} (h : getL (b.drop used) = (N, k, e)) (he : e ≠ 0) : ungapF b (m + 1) used last acc = ([], 0, e) := by
  rw [ungapF, h]; exact if_pos he
theorem ungapF_range {b : List Nat} {m used last : Nat} {acc : List Nat} {N k : Nat} (h : getL (b.drop used) = (N, k, 0)) (he : MaxN < N ∨ MaxN < last + N) : ungapF b (m + 1) used last acc = ([], 0, 2) := by
  rw [ungapF, h, if_neg (by simp)]; exact if_pos he
theorem ungapF_on {b : List Nat} {m used last : Nat} {acc : List Nat} {N k : Nat} (h : getL (b.drop used) = (N, k, 0)) (he : ¬ (MaxN < N ∨ MaxN < last + N)) : ungapF b (m + 1) used last acc = ungapF b m (used + k) (last + N) (acc ++ [last + N]) := by
  rw [ungapF, h, if_neg (by simp)]; exact if_neg he
theorem ungapL_err {b : List Nat} {N k e : Nat} (h : getL b = (N, k, e)) (he : e ≠ 0) : ungapL b = ([], 0, e) := by
  rw [ungapL, h]; exact if_pos he
theorem ungapL_size {b : List Nat} {N k : Nat} (h : getL b = (N, k, 0)) (he : 2000 < N) : ungapL b = ([], 0, 1) := by
  rw [ungapL, h, if_neg (by simp)]; exact if_pos he
theorem ungapL_on {b : List Nat} {N k : Nat} (h : getL b = (N, k, 0)) (he : ¬ 2000 < N) : ungapL b = ungapF b N k 0 [] := by
  rw [ungapL, h, if_neg (by simp)]; exact if_neg he

theorem ungapF_gaps : ∀ (l : List Nat) (pre t : List Nat) (last : Nat) (acc : List Nat), RiseF last l → last ≤ MaxN →
    ungapF (pre ++ gapsF last l ++ t) l.length pre.length last acc = (acc ++ l, (pre ++ gapsF last l).length, 0) := by
  intro l
  induction l with
  | nil => intro pre t last acc _ _; simp [ungapF, gapsF]
  | cons n r ih =>
    intro pre t last acc hr hl
    obtain ⟨h1, h2, h3⟩ := hr
    have hg : getL ((pre ++ gapsF last (n :: r) ++ t).drop pre.length) = (n - last, (put (n - last)).length, 0) := by
      rw [List.append_assoc, List.drop_left, gapsF, List.append_assoc]
      exact getL_put (by unfold U64; unfold MaxN at h2; omega) _
    rw [List.length_cons, ungapF_on hg (by omega)]
    have e1 : last + (n - last) = n := by omega
    have e2 : pre ++ gapsF last (n :: r) ++ t = (pre ++ put (n - last)) ++ gapsF n r ++ t := by rw [gapsF]; simp only [List.append_assoc]
    have e3 : pre.length + (put (n - last)).length = (pre ++ put (n - last)).length := List.length_append.symm
    rw [e1, e2, e3, ih (pre ++ put (n - last)) t n (acc ++ [n]) h3 h2]
    rw [gapsF]
    simp only [List.append_assoc, List.cons_append, List.nil_append]
theorem ungapL_gapsL {l : List Nat} (hl : l.length ≤ 2000) (hr : RiseF 0 l) (t : List Nat) : ungapL (gapsL l ++ t) = (l, (gapsL l).length, 0) := by
  have hg : getL (gapsL l ++ t) = (l.length, (put l.length).length, 0) := by
    rw [gapsL, List.append_assoc]
    exact getL_put (by unfold U64; omega) _
  rw [ungapL_on hg (by omega)]
  have h := ungapF_gaps l (put l.length) t 0 [] hr (by unfold MaxN; omega)
  rw [List.nil_append] at h
  exact h
theorem gapsF_len : ∀ (l : List Nat) (last : Nat), l.length ≤ (gapsF last l).length := by
  intro l
  induction l with
  | nil => intro last; exact Nat.le_refl _
  | cons n r ih => intro last; rw [gapsF, List.length_append, List.length_cons]; have := put_pos (n - last); have := ih n; omega
theorem gapsL_len (l : List Nat) : l.length < (gapsL l).length := by
  rw [gapsL, List.length_append]; have := put_pos l.length; have := gapsF_len l 0; omega
theorem gapsF_bytes : ∀ (l : List Nat) (last : Nat), AllB (gapsF last l) := by
  intro l
  induction l with
  | nil => intro last x hx; cases hx
  | cons n r ih =>
    intro last x hx
    rcases List.mem_append.1 hx with h | h
    · exact put_bytes _ _ (Nat.le_refl _) x h
    · exact ih n x h
theorem gapsL_bytes (l : List Nat) : AllB (gapsL l) := by
  intro x hx
  rcases List.mem_append.1 hx with h | h
  · exact put_bytes _ _ (Nat.le_refl _) x h
  · exact gapsF_bytes l 0 x h
theorem gapsF_len_le : ∀ (l : List Nat) (last : Nat), RiseF last l → (gapsF last l).length ≤ 10 * l.length := by
  intro l
  induction l with
  | nil => intro last _; exact Nat.le_refl _
  | cons n r ih =>
    intro last h
    obtain ⟨h1, h2, h3⟩ := h
    rw [gapsF, List.length_append, List.length_cons]
    have := put_len10 (n := n - last) (by unfold U64; unfold MaxN at h2; omega)
    have := ih n h3
    omega
/-- what is had was packed so -/
theorem ungapF_fixed {b : List Nat} (hb : AllB b) : ∀ (m used last : Nat) (acc : List Nat), used ≤ b.length → last ≤ MaxN → (ungapF b m used last acc).2.2 = 0 →
    ∃ y, (ungapF b m used last acc).1 = acc ++ y ∧ y.length = m ∧ RiseF last y ∧ used ≤ (ungapF b m used last acc).2.1 ∧ (ungapF b m used last acc).2.1 ≤ b.length ∧ b.take (ungapF b m used last acc).2.1 = b.take used ++ gapsF last y := by
  intro m
  induction m with
  | zero =>
    intro used last acc hu _ _
    exact ⟨[], by simp [ungapF], rfl, trivial, Nat.le_refl _, hu, by simp [ungapF, gapsF]⟩
  | succ m ih =>
    intro used last acc hu hl h
    obtain ⟨N, k, e⟩ : ∃ x, x = getL (b.drop used) := ⟨_, rfl⟩
    generalize hg : getL (b.drop used) = G at *
    obtain ⟨N, k, e⟩ := G
    by_cases he : e = 0
    · subst he
      by_cases hr : MaxN < N ∨ MaxN < last + N
      · rw [ungapF_range hg hr] at h; cases h
      · rw [ungapF_on hg hr] at h ⊢
        have hbd : AllB (b.drop used) := fun x hx => hb x (List.mem_of_mem_drop hx)
        have h1 := getL_bd hbd (by rw [hg])
        have h2 := getL_fixed hbd (by rw [hg])
        rw [hg] at h1 h2
        obtain ⟨_, h3, h4, h5⟩ := h1
        obtain ⟨h6, h7⟩ := h2
        dsimp only at h3 h4 h5 h6 h7
        rw [List.length_drop] at h4
        obtain ⟨y, i1, i2, i3, i4, i5, i6⟩ := ih (used + k) (last + N) (acc ++ [last + N]) (by omega) (by omega) h
        refine ⟨(last + N) :: y, by rw [i1]; simp, by rw [List.length_cons, i2], ⟨by omega, by omega, i3⟩, by omega, i5, ?_⟩
        rw [i6, gapsF, List.take_add, List.append_assoc]
        have e1 : last + N - last = N := by omega
        rw [e1, h6]
    · rw [ungapF_err hg he] at h; exact absurd h he
theorem ungapL_fixed {b : List Nat} (hb : AllB b) (h : (ungapL b).2.2 = 0) :
    1 ≤ (ungapL b).2.1 ∧ (ungapL b).2.1 ≤ b.length ∧ b.take (ungapL b).2.1 = gapsL (ungapL b).1 ∧ RiseF 0 (ungapL b).1 ∧ (ungapL b).1.length ≤ 2000 := by
  generalize hg : getL b = G at *
  obtain ⟨N, k, e⟩ := G
  by_cases he : e = 0
  · subst he
    by_cases hr : 2000 < N
    · rw [ungapL_size hg hr] at h; cases h
    · rw [ungapL_on hg hr] at h ⊢
      have h1 := getL_bd hb (by rw [hg])
      have h2 := getL_fixed hb (by rw [hg])
      rw [hg] at h1 h2
      obtain ⟨_, h3, h4, h5⟩ := h1
      obtain ⟨h6, h7⟩ := h2
      dsimp only at h3 h4 h5 h6 h7
      obtain ⟨y, i1, i2, i3, i4, i5, i6⟩ := ungapF_fixed hb N k 0 [] h4 (by omega) h
      rw [List.nil_append] at i1
      refine ⟨by omega, i5, ?_, by rw [i1]; exact i3, by rw [i1, i2]; omega⟩
      rw [i6, i1, gapsL, i2, h6]
  · rw [ungapL_err hg he] at h; exact absurd h he
theorem ungapF_bad {b : List Nat} : ∀ (m used last : Nat) (acc : List Nat), (ungapF b m used last acc).2.2 ≠ 0 → (ungapF b m used last acc).1 = [] ∧ (ungapF b m used last acc).2.1 = 0 := by
  intro m
  induction m with
  | zero => intro used last acc h; exact absurd rfl h
  | succ m ih =>
    intro used last acc h
    generalize hg : getL (b.drop used) = G at *
    obtain ⟨N, k, e⟩ := G
    by_cases he : e = 0
    · subst he
      by_cases hr : MaxN < N ∨ MaxN < last + N
      · rw [ungapF_range hg hr]; exact ⟨rfl, rfl⟩
      · rw [ungapF_on hg hr] at h ⊢; exact ih _ _ _ h
    · rw [ungapF_err hg he]; exact ⟨rfl, rfl⟩
theorem ungapL_bad {b : List Nat} (h : (ungapL b).2.2 ≠ 0) : (ungapL b).1 = [] ∧ (ungapL b).2.1 = 0 := by
  generalize hg : getL b = G at *
  obtain ⟨N, k, e⟩ := G
  by_cases he : e = 0
  · subst he
    by_cases hr : 2000 < N
    · rw [ungapL_size hg hr]; exact ⟨rfl, rfl⟩
    · rw [ungapL_on hg hr] at h ⊢; exact ungapF_bad _ _ _ _ h
  · rw [ungapL_err hg he]; exact ⟨rfl, rfl⟩
end Go.Proofs.YtmdbcknlipahgaaDoor
