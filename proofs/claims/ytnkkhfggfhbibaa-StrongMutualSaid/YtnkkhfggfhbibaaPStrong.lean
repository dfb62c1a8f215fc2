/- The plain law of mutual reaching: the least vertex that reaches and is reached. No program in sight. -/
import Derived.Test.YtnkkhfggfhbibaaPGraph
namespace Go.Proofs.Ytnkkhfggfhbibaa
open Classical
/-- each reaches the other -/
def Mut (E : List Eg) (u v : Nat) : Prop := Rch E u v ∧ Rch E v u
theorem Mut.refl (E : List Eg) (u : Nat) : Mut E u u := ⟨.here, .here⟩
theorem Mut.symm {E : List Eg} {u v : Nat} (h : Mut E u v) : Mut E v u := ⟨h.2, h.1⟩
theorem Mut.trans {E : List Eg} {u v x : Nat} (h : Mut E u v) (h2 : Mut E v x) : Mut E u x := ⟨h.1.trans h2.1, h2.2.trans h.2⟩
noncomputable def lowM (E : List Eg) (k u : Nat) : Option Nat := (List.range k).find? fun v => decide (Mut E v u)
noncomputable def lbl (E : List Eg) (k u : Nat) : Int := match lowM E k u with
  | some v => (v : Int)
  | none => -1
theorem lowM_some {E : List Eg} {k u v : Nat} (h : lowM E k u = some v) : v < k ∧ Mut E v u ∧ ∀ x, x < v → ¬ Mut E x u := by
  unfold lowM at h
  rw [List.find?_range_eq_some] at h
  obtain ⟨h1, h2, h3⟩ := h
  exact ⟨List.mem_range.1 h2, of_decide_eq_true h1, fun x hx => by simpa using h3 x hx⟩
theorem lowM_none {E : List Eg} {k u : Nat} (h : lowM E k u = none) : ∀ v, v < k → ¬ Mut E v u := by
  unfold lowM at h
  rw [List.find?_eq_none] at h
  intro v hv
  simpa using h v (List.mem_range.2 hv)
theorem lowM_succ (E : List Eg) (k u : Nat) : lowM E (k + 1) u = (lowM E k u).or (if Mut E k u then some k else none) := by
  unfold lowM
  rw [List.range_succ, List.find?_append, List.find?_singleton]
  simp
theorem lbl_none {E : List Eg} {k u : Nat} : lbl E k u = -1 ↔ lowM E k u = none := by
  unfold lbl
  cases lowM E k u with
  | none => simp
  | some v => simp
theorem lbl_bound (E : List Eg) (k u : Nat) : -1 ≤ lbl E k u ∧ lbl E k u < (k : Int) ∨ lbl E k u = -1 := by
  unfold lbl
  cases h : lowM E k u with
  | none => exact .inr rfl
  | some v => have := (lowM_some h).1; left; dsimp only; omega
/-- what was labelled stays so: k has a label already -/
theorem lbl_skip {E : List Eg} {k : Nat} (h : lbl E k k ≠ -1) (u : Nat) : lbl E (k + 1) u = lbl E k u := by
  have h1 : lowM E k k ≠ none := fun e => h (lbl_none.2 e)
  obtain ⟨x, hx⟩ := Option.ne_none_iff_exists'.1 h1
  obtain ⟨h2, h3, _⟩ := lowM_some hx
  unfold lbl
  rw [lowM_succ]
  cases hu : lowM E k u with
  | some v => rfl
  | none =>
    have h4 : ¬ Mut E k u := fun hm => lowM_none hu x h2 (h3.trans hm)
    rw [if_neg h4]; rfl
/-- k is the least of its own -/
theorem lbl_new {E : List Eg} {k : Nat} (h : lbl E k k = -1) (u : Nat) : lbl E (k + 1) u = if Mut E k u then (k : Int) else lbl E k u := by
  have h1 := lbl_none.1 h
  unfold lbl
  rw [lowM_succ]
  by_cases hm : Mut E k u
  · rw [if_pos hm, if_pos hm]
    cases hu : lowM E k u with
    | none => rfl
    | some v =>
      obtain ⟨h2, h3, _⟩ := lowM_some hu
      exact absurd (h3.trans hm.symm) (lowM_none h1 v h2)
  · rw [if_neg hm, if_neg hm]; simp
theorem lbl_end {E : List Eg} {N u : Nat} (hu : u < N) : ∃ v : Nat, lbl E N u = (v : Int) ∧ v ≤ u ∧ Mut E v u ∧ ∀ x, x < v → ¬ Mut E x u := by
  cases h : lowM E N u with
  | none => exact absurd (Mut.refl E u) (lowM_none h u hu)
  | some v =>
    obtain ⟨h1, h2, h3⟩ := lowM_some h
    refine ⟨v, by unfold lbl; rw [h], ?_, h2, h3⟩
    by_cases hc : v ≤ u
    · exact hc
    · exact absurd (Mut.refl E u) (h3 u (by omega))
theorem lbl_same {E : List Eg} {N u v : Nat} (hu : u < N) (hv : v < N) : lbl E N u = lbl E N v ↔ Mut E u v := by
  obtain ⟨a, ha, _, ha2, ha3⟩ := lbl_end (E := E) hu
  obtain ⟨b, hb, _, hb2, hb3⟩ := lbl_end (E := E) hv
  rw [ha, hb]
  constructor
  · intro e
    have : a = b := by omega
    subst this
    exact ha2.symm.trans hb2
  · intro hm
    have h1 : ¬ a < b := fun hl => hb3 a hl (ha2.trans hm)
    have h2 : ¬ b < a := fun hl => ha3 b hl (hb2.trans hm.symm)
    omega
theorem lbl_own {E : List Eg} {N u : Nat} (hu : u < N) : ∃ v : Nat, lbl E N u = (v : Int) ∧ v ≤ u ∧ lbl E N v = (v : Int) := by
  obtain ⟨v, h1, h2, h3, _⟩ := lbl_end (E := E) hu
  refine ⟨v, h1, h2, ?_⟩
  rw [← h1]
  exact (lbl_same (by omega) hu).2 h3
/-- the labels of all, those below j already by k + 1 -/
noncomputable def labs (E : List Eg) (N k j : Nat) : List Int := (List.range N).map fun u => if u < j then lbl E (k + 1) u else lbl E k u
theorem labs_len (E : List Eg) (N k j : Nat) : (labs E N k j).length = N := by simp [labs]
theorem labs_at {E : List Eg} {N k j u : Nat} (hu : u < N) : (labs E N k j)[u]? = some (if u < j then lbl E (k + 1) u else lbl E k u) := by
  unfold labs
  rw [List.getElem?_map, List.getElem?_range hu]; rfl
theorem labs_next (E : List Eg) (N k : Nat) : labs E N k N = labs E N (k + 1) 0 := by
  unfold labs
  refine List.map_congr_left fun u hu => ?_
  rw [if_pos (List.mem_range.1 hu), if_neg (by omega)]
theorem labs_skip {E : List Eg} {k : Nat} (h : lbl E k k ≠ -1) (N : Nat) : labs E N k 0 = labs E N (k + 1) 0 := by
  unfold labs
  refine List.map_congr_left fun u _ => ?_
  rw [if_neg (by omega), if_neg (by omega), lbl_skip h]
theorem labs_yes {E : List Eg} {N k j : Nat} (h : lbl E k k = -1) (hj : j < N) (hm : Mut E k j) : (labs E N k j).set j (k : Int) = labs E N k (j + 1) := by
  apply List.ext_getElem?
  intro u
  rw [List.getElem?_set, labs_len]
  by_cases hu : u < N
  · rw [labs_at hu, labs_at hu]
    by_cases he : j = u
    · subst he
      rw [if_pos rfl, if_pos hj, if_pos (by omega), lbl_new h, if_pos hm]
    · rw [if_neg he]
      by_cases hc : u < j
      · rw [if_pos hc, if_pos (by omega)]
      · rw [if_neg hc, if_neg (by omega)]
  · rw [if_neg (by omega), List.getElem?_eq_none (by rw [labs_len]; omega), List.getElem?_eq_none (by rw [labs_len]; omega)]
theorem labs_no {E : List Eg} {N k j : Nat} (h : lbl E k k = -1) (hm : ¬ Mut E k j) : labs E N k j = labs E N k (j + 1) := by
  unfold labs
  refine List.map_congr_left fun u _ => ?_
  by_cases he : u = j
  · subst he
    rw [if_neg (by omega), if_pos (by omega), lbl_new h, if_neg hm]
  · by_cases hc : u < j
    · rw [if_pos hc, if_pos (by omega)]
    · rw [if_neg hc, if_neg (by omega)]
theorem labs_zero (E : List Eg) (N : Nat) : labs E N 0 0 = List.replicate N (-1) := by
  apply List.ext_getElem?
  intro u
  by_cases hu : u < N
  · rw [labs_at hu, List.getElem?_replicate, if_pos hu, if_neg (by omega)]; rfl
  · rw [List.getElem?_eq_none (by rw [labs_len]; omega), List.getElem?_eq_none (by rw [List.length_replicate]; omega)]
end Go.Proofs.Ytnkkhfggfhbibaa
