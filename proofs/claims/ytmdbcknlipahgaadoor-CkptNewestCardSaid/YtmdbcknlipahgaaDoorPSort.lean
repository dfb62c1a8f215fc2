/- The plain law of sorting: the sorted list of a permutation is the same. No program in sight. -/
import Derived.Test.YtmdbcknlipahgaaDoorOrdM
namespace Go.Proofs.YtmdbcknlipahgaaDoor
open Go.Sort Go.Proofs
theorem cmpI_lt (x y : Int) : Lib.compareInt x y < 0 ↔ x < y := by
  unfold Lib.compareInt
  split
  · omega
  · split <;> omega
theorem cmpI_eq (x y : Int) : Lib.compareInt x y = 0 ↔ x = y := by
  unfold Lib.compareInt
  split
  · omega
  · split <;> omega
theorem sorted_perm_eq {α : Type} {le : α → α → Prop} (anti : ∀ a b, le a b → le b a → a = b) : ∀ {l l' : List α}, l.Perm l' → l.Pairwise le → l'.Pairwise le → l = l' := by
  intro l
  induction l with
  | nil => intro l' hp _ _; exact (List.nil_perm.1 hp).symm
  | cons a l ih =>
    intro l' hp h1 h2
    cases l' with
    | nil => exact absurd hp.length_eq (by simp)
    | cons b l' =>
      have hab : a = b := by
        rcases List.mem_cons.1 (hp.mem_iff.1 (List.mem_cons_self (a := a) (l := l))) with h | h
        · exact h
        · rcases List.mem_cons.1 (hp.mem_iff.2 (List.mem_cons_self (a := b) (l := l'))) with h' | h'
          · exact h'.symm
          · exact anti a b ((List.pairwise_cons.1 h1).1 b h') ((List.pairwise_cons.1 h2).1 a h)
      subst hab
      rw [ih (List.Perm.cons_inv hp) (List.pairwise_cons.1 h1).2 (List.pairwise_cons.1 h2).2]
section
variable {α : Type} {cf : α → α → Int}
def leO (cf : α → α → Int) (x y : α) : Bool := !(ltOf cf) y x
/-- in order -/
def srt (cf : α → α → Int) (l : List α) : List α := l.mergeSort (leO cf)
theorem srt_len (l : List α) : (srt cf l).length = l.length := List.length_mergeSort l
theorem srt_perm (l : List α) : (srt cf l).Perm l := List.mergeSort_perm l (leO cf)
theorem leO_trans (hO : SWO (ltOf cf)) (a b c : α) (h1 : leO cf a b = true) (h2 : leO cf b c = true) : leO cf a c = true := by
  unfold leO at *
  simp only [Bool.not_eq_true'] at *
  exact hO.ntrans c b a h2 h1
theorem leO_total (hO : SWO (ltOf cf)) (a b : α) : (leO cf a b || leO cf b a) = true := by
  unfold leO
  cases h1 : ltOf cf b a
  · rfl
  · cases h2 : ltOf cf a b
    · rfl
    · have := hO.trans a b a h2 h1
      rw [hO.irrefl] at this
      cases this
theorem srt_sorted (hO : SWO (ltOf cf)) (l : List α) : (srt cf l).Pairwise (fun a b => leO cf a b = true) := List.pairwise_mergeSort (leO_trans hO) (leO_total hO) l
theorem srt_unique (hO : SWO (ltOf cf)) (hT : ∀ x y, ltOf cf x y = false → ltOf cf y x = false → x = y) {l s : List α} (hp : s.Perm l) (hs : s.Pairwise (fun a b => leO cf a b = true)) : srt cf l = s :=
  sorted_perm_eq (fun a b h1 h2 => by
    unfold leO at h1 h2
    simp only [Bool.not_eq_true'] at h1 h2
    exact hT a b h2 h1) ((srt_perm l).trans hp.symm) (srt_sorted hO l) hs
theorem srt_perm_eq (hO : SWO (ltOf cf)) (hT : ∀ x y, ltOf cf x y = false → ltOf cf y x = false → x = y) {l l' : List α} (hp : l.Perm l') : srt cf l = srt cf l' :=
  srt_unique hO hT ((srt_perm l').trans hp.symm) (srt_sorted hO l')
end
theorem ltM (x y : Nat × Nat) : ltOf cfM x y = decide (x.1 < y.1 ∨ (x.1 = y.1 ∧ x.2 < y.2)) := by
  unfold ltOf cfM orL orL orL
  rw [decide_eq_decide]
  by_cases h : Lib.compareInt (x.1 : Int) (y.1 : Int) = 0
  · have h1 := (cmpI_eq _ _).1 h
    rw [if_pos h]
    by_cases h' : Lib.compareInt (x.2 : Int) (y.2 : Int) = 0
    · have h2 := (cmpI_eq _ _).1 h'
      rw [if_pos h']; omega
    · rw [if_neg h', cmpI_lt]; omega
  · have h1 : ¬ (x.1 : Int) = y.1 := fun e => h ((cmpI_eq _ _).2 e)
    rw [if_neg h, cmpI_lt]; omega
theorem swoM : SWO (ltOf cfM) where
  irrefl x := by rw [ltM]; simp
  trans x y z h1 h2 := by rw [ltM] at *; simp at *; omega
  ntrans x y z h1 h2 := by rw [ltM] at *; simp at *; omega
theorem totM (x y : Nat × Nat) (h1 : ltOf cfM x y = false) (h2 : ltOf cfM y x = false) : x = y := by
  rw [ltM] at *
  simp at h1 h2
  obtain ⟨a, b⟩ := x
  obtain ⟨c, d⟩ := y
  simp at h1 h2
  have e1 : a = c := by omega
  have e2 : b = d := by omega
  rw [e1, e2]
theorem leM_iff (x y : Nat × Nat) : leO cfM x y = true ↔ (x.1 < y.1 ∨ (x.1 = y.1 ∧ x.2 ≤ y.2)) := by
  unfold leO; rw [ltM]; simp; omega
end Go.Proofs.YtmdbcknlipahgaaDoor
