/- Rounds of the third kind: forward and back, till all have a label; plain laws. No program walked. -/
import Derived.Test.YtiaflhlfodcbjaaPGraph
import Derived.Test.YtiaflhlfodcbjaaPRnd
namespace Go.Proofs.Ytiaflhlfodcbjaa
open Classical
/-- each reaches the other -/
def Mut (E : List Eg) (u v : Nat) : Prop := Rch E u v ∧ Rch E v u
theorem Mut.refl (E : List Eg) (u : Nat) : Mut E u u := ⟨.here, .here⟩
theorem Mut.symm {E : List Eg} {u v : Nat} (h : Mut E u v) : Mut E v u := ⟨h.2, h.1⟩
theorem Mut.trans {E : List Eg} {u v x : Nat} (h : Mut E u v) (h2 : Mut E v x) : Mut E u x := ⟨h.1.trans h2.1, h2.2.trans h.2⟩
noncomputable def lowM (E : List Eg) (k u : Nat) : Option Nat := (List.range k).find? fun v => decide (Mut E v u)
noncomputable def lbl (E : List Eg) (k u : Nat) : Int := match lowM E k u with
  | some v => (v : Int)
  | none => -1
theorem lowM_some {E : List Eg} {k u v : Nat} (h : lowM E k u = some v) : v < k ∧ Mut E v u ∧ ∀ x, x < v → ¬ Mut E x u := by
  unfold lowM at h
  rw [List.find?_range_eq_some] at h
  obtain ⟨h1, h2, h3⟩ := h
  exact ⟨List.mem_range.1 h2, of_decide_eq_true h1, fun x hx => by simpa using h3 x hx⟩
theorem lowM_none {E : List Eg} {k u : Nat} (h : lowM E k u = none) : ∀ v, v < k → ¬ Mut E v u := by
  unfold lowM at h
  rw [List.find?_eq_none] at h
  intro v hv
  simpa using h v (List.mem_range.2 hv)
theorem lowM_succ (E : List Eg) (k u : Nat) : lowM E (k + 1) u = (lowM E k u).or (if Mut E k u then some k else none) := by
  unfold lowM
  rw [List.range_succ, List.find?_append, List.find?_singleton]
  simp
theorem lbl_none {E : List Eg} {k u : Nat} : lbl E k u = -1 ↔ lowM E k u = none := by
  unfold lbl
  cases lowM E k u with
  | none => simp
  | some v => simp
theorem lbl_bound (E : List Eg) (k u : Nat) : -1 ≤ lbl E k u ∧ lbl E k u < (k : Int) ∨ lbl E k u = -1 := by
  unfold lbl
  cases h : lowM E k u with
  | none => exact .inr rfl
  | some v => have := (lowM_some h).1; left; dsimp only; omega
/-- what was labelled stays so: k has a label already -/
theorem lbl_skip {E : List Eg} {k : Nat} (h : lbl E k k ≠ -1) (u : Nat) : lbl E (k + 1) u = lbl E k u := by
  have h1 : lowM E k k ≠ none := fun e => h (lbl_none.2 e)
  obtain ⟨x, hx⟩ := Option.ne_none_iff_exists'.1 h1
  obtain ⟨h2, h3, _⟩ := lowM_some hx
  unfold lbl
  rw [lowM_succ]
  cases hu : lowM E k u with
  | some v => rfl
  | none =>
    have h4 : ¬ Mut E k u := fun hm => lowM_none hu x h2 (h3.trans hm)
    rw [if_neg h4]; rfl
/-- k is the least of its own -/
theorem lbl_new {E : List Eg} {k : Nat} (h : lbl E k k = -1) (u : Nat) : lbl E (k + 1) u = if Mut E k u then (k : Int) else lbl E k u := by
  have h1 := lbl_none.1 h
  unfold lbl
  rw [lowM_succ]
  by_cases hm : Mut E k u
  · rw [if_pos hm, if_pos hm]
    cases hu : lowM E k u with
    | none => rfl
    | some v =>
      obtain ⟨h2, h3, _⟩ := lowM_some hu
      exact absurd (h3.trans hm.symm) (lowM_none h1 v h2)
  · rw [if_neg hm, if_neg hm]; simp
theorem lbl_end {E : List Eg} {N u : Nat} (hu : u < N) : ∃ v : Nat, lbl E N u = (v : Int) ∧ v ≤ u ∧ Mut E v u ∧ ∀ x, x < v → ¬ Mut E x u := by
  cases h : lowM E N u with
  | none => exact absurd (Mut.refl E u) (lowM_none h u hu)
  | some v =>
    obtain ⟨h1, h2, h3⟩ := lowM_some h
    refine ⟨v, by unfold lbl; rw [h], ?_, h2, h3⟩
    by_cases hc : v ≤ u
    · exact hc
    · exact absurd (Mut.refl E u) (h3 u (by omega))
theorem lbl_same {E : List Eg} {N u v : Nat} (hu : u < N) (hv : v < N) : lbl E N u = lbl E N v ↔ Mut E u v := by
  obtain ⟨a, ha, _, ha2, ha3⟩ := lbl_end (E := E) hu
  obtain ⟨b, hb, _, hb2, hb3⟩ := lbl_end (E := E) hv
  rw [ha, hb]
  constructor
  · intro e
    have : a = b := by omega
    subst this
    exact ha2.symm.trans hb2
  · intro hm
    have h1 : ¬ a < b := fun hl => hb3 a hl (ha2.trans hm)
    have h2 : ¬ b < a := fun hl => ha3 b hl (hb2.trans hm.symm)
    omega
theorem lbl_own {E : List Eg} {N u : Nat} (hu : u < N) : ∃ v : Nat, lbl E N u = (v : Int) ∧ v ≤ u ∧ lbl E N v = (v : Int) := by
  obtain ⟨v, h1, h2, h3, _⟩ := lbl_end (E := E) hu
  refine ⟨v, h1, h2, ?_⟩
  rw [← h1]
  exact (lbl_same (by omega) hu).2 h3
/-- the labels of all, those below j already by k + 1 -/
noncomputable def labs (E : List Eg) (N k j : Nat) : List Int := (List.range N).map fun u => if u < j then lbl E (k + 1) u else lbl E k u
theorem labs_len (E : List Eg) (N k j : Nat) : (labs E N k j).length = N := by simp [labs]
theorem labs_at {E : List Eg} {N k j u : Nat} (hu : u < N) : (labs E N k j)[u]? = some (if u < j then lbl E (k + 1) u else lbl E k u) := by
  unfold labs
  rw [List.getElem?_map, List.getElem?_range hu]; rfl
theorem labs_next (E : List Eg) (N k : Nat) : labs E N k N = labs E N (k + 1) 0 := by
  unfold labs
  refine List.map_congr_left fun u hu => ?_
  rw [if_pos (List.mem_range.1 hu), if_neg (by omega)]
theorem labs_skip {E : List Eg} {k : Nat} (h : lbl E k k ≠ -1) (N : Nat) : labs E N k 0 = labs E N (k + 1) 0 := by
  unfold labs
  refine List.map_congr_left fun u _ => ?_
  rw [if_neg (by omega), if_neg (by omega), lbl_skip h]
theorem labs_yes {E : List Eg} {N k j : Nat} (h : lbl E k k = -1) (hj : j < N) (hm : Mut E k j) : (labs E N k j).set j (k : Int) = labs E N k (j + 1) := by
  apply List.ext_getElem?
  intro u
  rw [List.getElem?_set, labs_len]
  by_cases hu : u < N
  · rw [labs_at hu, labs_at hu]
    by_cases he : j = u
    · subst he
      rw [if_pos rfl, if_pos hj, if_pos (by omega), lbl_new h, if_pos hm]
    · rw [if_neg he]
      by_cases hc : u < j
      · rw [if_pos hc, if_pos (by omega)]
      · rw [if_neg hc, if_neg (by omega)]
  · rw [if_neg (by omega), List.getElem?_eq_none (by rw [labs_len]; omega), List.getElem?_eq_none (by rw [labs_len]; omega)]
theorem labs_no {E : List Eg} {N k j : Nat} (h : lbl E k k = -1) (hm : ¬ Mut E k j) : labs E N k j = labs E N k (j + 1) := by
  unfold labs
  refine List.map_congr_left fun u _ => ?_
  by_cases he : u = j
  · subst he
    rw [if_neg (by omega), if_pos (by omega), lbl_new h, if_neg hm]
  · by_cases hc : u < j
    · rw [if_pos hc, if_pos (by omega)]
    · rw [if_neg hc, if_neg (by omega)]
theorem labs_zero (E : List Eg) (N : Nat) : labs E N 0 0 = List.replicate N (-1) := by
  apply List.ext_getElem?
  intro u
  by_cases hu : u < N
  · rw [labs_at hu, List.getElem?_replicate, if_pos hu, if_neg (by omega)]; rfl
  · rw [List.getElem?_eq_none (by rw [labs_len]; omega), List.getElem?_eq_none (by rw [List.length_replicate]; omega)]
end Go.Proofs.Ytiaflhlfodcbjaa
namespace Go.Proofs.Ytiaflhlfodcbjaa
/-- what a vertex begins with -/
def iniF (kind : Nat) (src : Int) (v : Nat) : Int := if kind = 1 then (if (v : Int) = src then 0 else -1) else (v : Int)
theorem awk_low {kind : Nat} {src : Int} {s : RSt} {v : Nat} (hk : kind = 1 ∨ kind = 2) (hf : s.fresh = false) : awk kind src s v = ((lwA (aV s v).1 (mL s v), (aV s v).2), lwS (aV s v).1 false (mL s v)) := by
  unfold awk
  split
  · rename_i h; rw [h.2]; simp [lwA, lwS]
  · unfold wkF
    rcases hk with rfl | rfl <;> simp [hf]
theorem awk_fresh {kind : Nat} {src : Int} {s : RSt} {v : Nat} (hk : kind = 1 ∨ kind = 2) (hf : s.fresh = true) : (awk kind src s v).1 = (iniF kind src v, -1) ∧ ((awk kind src s v).2 = true ↔ 0 ≤ iniF kind src v) := by
  unfold awk
  rw [if_neg (by simp [hf])]
  unfold wkF iniF
  rcases hk with rfl | rfl
  · simp only [hf, if_true]
    refine ⟨trivial, ?_⟩
    by_cases h : (v : Int) = src
    · simp [h]
    · simp [h]
  · simp [hf]
/-- between two rounds -/
structure LiveL (kind : Nat) (src : Int) (N : Nat) (E : List Eg) (k : Nat) (s : RSt) : Prop where
  nd : s.done = false
  nf : s.fresh = false
  ph : s.phase = 0
  mp : MP N (RA kind 0 E) (fun _ => True) (iniF kind src) k (fun v => (aV s v).1) (mL s)
  some : ∃ v, v < N ∧ mL s v ≠ []
def EndL (kind : Nat) (src : Int) (N : Nat) (E : List Eg) (s : RSt) : Prop := MPEnd N (RA kind 0 E) (fun _ => True) (iniF kind src) (fun v => (aV s v).1)
theorem nextF_low {kind : Nat} {src : Int} {N : Nat} {E : List Eg} {s : RSt} (hk : kind = 1 ∨ kind = 2) (hd : s.done = false) :
    (anyL (nMail kind src N E s) = true ∧ (nextF kind src N E s).done = false ∧ (nextF kind src N E s).fresh = false ∧ (nextF kind src N E s).phase = s.phase) ∨ (anyL (nMail kind src N E s) = false ∧ (nextF kind src N E s).done = true) := by
  have h3 : kind ≠ 3 := by omega
  unfold nextF
  rw [if_neg (by simp [hd])]
  by_cases ha : anyL (nMail kind src N E s) = true
  · left; rw [if_pos ha]; exact ⟨ha, rfl, rfl, rfl⟩
  · right; rw [if_neg ha, if_pos h3]; exact ⟨by simpa using ha, rfl⟩
theorem mp_next {kind : Nat} {src : Int} {N k : Nat} {E : List Eg} {s : RSt} (hk : kind = 1 ∨ kind = 2) (hG : InG N E) (hd : s.done = false) (hp : s.phase = 0)
    (hmp : MP N (RA kind 0 E) (fun _ => True) (iniF kind src) k (fun v => (aV (nextF kind src N E s) v).1) (mL (nextF kind src N E s))) :
    LiveL kind src N E k (nextF kind src N E s) ∨ ((nextF kind src N E s).done = true ∧ EndL kind src N E (nextF kind src N E s)) := by
  rcases nextF_low (src := src) (N := N) (E := E) hk hd with ⟨h1, h2, h3, h4⟩ | ⟨h1, h2⟩
  · left
    obtain ⟨t, ht, hne⟩ := anyL_true h1
    refine ⟨h2, h3, h4.trans hp, hmp, t, ht, ?_⟩
    unfold mL; rw [(nextF_vals hd).2.1]; exact hne
  · right
    refine ⟨h2, hmp.end (RA.ok hG) (fun v _ => ?_)⟩
    unfold mL; rw [(nextF_vals hd).2.1]; exact anyL_false h1 v
theorem low_step {kind : Nat} {src : Int} {N k : Nat} {E : List Eg} {s : RSt} (hk : kind = 1 ∨ kind = 2) (hG : InG N E) (h : LiveL kind src N E k s) :
    LiveL kind src N E (k + 1) (nextF kind src N E s) ∨ ((nextF kind src N E s).done = true ∧ EndL kind src N E (nextF kind src N E s)) := by
  refine mp_next hk hG h.nd h.ph ?_
  have ha := fun v => awk_low (src := src) (s := s) (v := v) hk h.nf
  refine h.mp.step (said := fun v => v < N ∧ (awk kind src s v).2 = true) (RA.ok hG) (fun v hv _ => ?_) (fun v _ hn => absurd trivial hn) (fun v hv => ?_) (fun v hv m => ?_)
  · rw [nextF_aV h.nd hv, ha]
  · rw [nextF_aV h.nd hv, ha]
    obtain ⟨l1, -⟩ := lw_all (mL s v) (aV s v).1 (h.mp.low v hv) (h.mp.pos v hv)
    dsimp only
    rw [l1]
    simp [hv]
  · rw [nextF_mL h.nd hv, h.ph]
    constructor
    · rintro ⟨u, w, hr, hs, rfl⟩
      exact ⟨u, w, hr, hs, by rw [nextF_aV h.nd hs.1]⟩
    · rintro ⟨u, w, hr, hs, rfl⟩
      exact ⟨u, w, hr, hs, by rw [nextF_aV h.nd hs.1]⟩
theorem low_start {kind : Nat} {src : Int} {N : Nat} {E : List Eg} {s : RSt} (hk : kind = 1 ∨ kind = 2) (hG : InG N E) (hd : s.done = false) (hf : s.fresh = true) (hp : s.phase = 0) :
    LiveL kind src N E 1 (nextF kind src N E s) ∨ ((nextF kind src N E s).done = true ∧ EndL kind src N E (nextF kind src N E s)) := by
  refine mp_next hk hG hd hp ?_
  have ha := fun v => awk_fresh (src := src) (s := s) (v := v) hk hf
  refine MP.start (RA.ok hG) (fun v hv _ => ?_) (fun v hv => ?_) (fun v hv m => ?_)
  · rw [nextF_aV hd hv, (ha v).1]
  · rw [nextF_aV hd hv, (ha v).1]
    show -1 ≤ iniF kind src v
    unfold iniF; (repeat' split) <;> omega
  · rw [nextF_mL hd hv, hp]
    constructor
    · rintro ⟨u, w, hr, hs, rfl⟩
      exact ⟨u, w, hr, ⟨trivial, (ha u).2.1 hs.2⟩, by rw [nextF_aV hd hs.1]⟩
    · rintro ⟨u, w, hr, ⟨-, hs⟩, rfl⟩
      have hu := (RA.ok hG u v w hr).1
      exact ⟨u, w, hr, ⟨hu, (ha u).2.2 hs⟩, by rw [nextF_aV hd hu]⟩
theorem low_ends {kind : Nat} {src : Int} {N : Nat} {E : List Eg} (hk : kind = 1 ∨ kind = 2) (hG : InG N E) : ∀ (j k : Nat) (s : RSt), LiveL kind src N E k s → N < k + j → ∃ K, K ≤ j ∧ EndsIn (nextF kind src N E) (EndL kind src N E) K s
  | 0, k, s, h, hj => by
    obtain ⟨v, hv, hm⟩ := h.some
    have := h.mp.bound hv hm
    omega
  | j + 1, k, s, h, hj => by
    rcases low_step hk hG h with h1 | ⟨h1, h2⟩
    · obtain ⟨K, hK, hE⟩ := low_ends hk hG j (k + 1) _ h1 (by omega)
      exact ⟨K + 1, by omega, .go h.nd hE⟩
    · exact ⟨1, by omega, .go h.nd (.stop h1 h2)⟩
/-- the run of a job that hands on the least -/
theorem low_run {kind : Nat} {src : Int} {N : Nat} {E : List Eg} (hk : kind = 1 ∨ kind = 2) (hG : InG N E) : ∃ K, 1 ≤ K ∧ K ≤ N + 1 ∧ EndsIn (nextF kind src N E) (EndL kind src N E) K (beginF N) := by
  rcases low_start (src := src) (s := beginF N) hk hG rfl rfl rfl with h | ⟨h1, h2⟩
  · obtain ⟨K, hK, hE⟩ := low_ends hk hG N 1 _ h (by omega)
    exact ⟨K + 1, by omega, by omega, .go rfl hE⟩
  · exact ⟨1, by omega, by omega, .go rfl (.stop h1 h2)⟩
end Go.Proofs.Ytiaflhlfodcbjaa
namespace Go.Proofs.Ytiaflhlfodcbjaa
section
variable {src : Int} {N : Nat} {E : List Eg}
/-- labels behind which a phase goes -/
def Un (B : Nat → Int) (v : Nat) : Prop := B v = -1
/-- in the phase forward -/
structure FwdS (N : Nat) (E : List Eg) (B : Nat → Int) (k : Nat) (s : RSt) : Prop where
  nd : s.done = false
  nf : s.fresh = false
  ph : s.phase = 0
  lb : ∀ v, v < N → (aV s v).2 = B v
  mp : MP N (RA 3 0 E) (Un B) (fun v => (v : Int)) k (fun v => (aV s v).1) (mL s)
  some : ∃ v, v < N ∧ mL s v ≠ []
structure FwdB (N : Nat) (B : Nat → Int) (s : RSt) : Prop where
  nd : s.done = false
  fr : s.fresh = true
  ph : s.phase = 0
  lb : ∀ v, v < N → (aV s v).2 = B v
  low : ∀ v, v < N → -1 ≤ (aV s v).1
/-- where the phase back begins -/
structure BackB (N : Nat) (E : List Eg) (B : Nat → Int) (s : RSt) : Prop where
  nd : s.done = false
  fr : s.fresh = true
  ph : s.phase = 1
  lb : ∀ v, v < N → (aV s v).2 = B v
  mp : MPEnd N (RA 3 0 E) (Un B) (fun v => (v : Int)) (fun v => (aV s v).1)
theorem awk_fwd {s : RSt} {v : Nat} (hf : s.fresh = false) (hp : s.phase = 0) : awk 3 src s v = if (aV s v).2 = -1 then ((lwA (aV s v).1 (mL s v), (aV s v).2), lwS (aV s v).1 false (mL s v)) else (aV s v, false) := by
  unfold awk
  split
  · rename_i h; rw [h.2]; split <;> simp [lwA, lwS]
  · unfold wkF
    rw [if_neg (by omega), if_neg (by omega)]
    by_cases hb : (aV s v).2 = -1
    · rw [if_neg (by simp [hb]), if_pos hp, if_neg (by simp [hf]), if_pos hb]
    · rw [if_pos hb, if_neg hb]
theorem awk_fwdB {s : RSt} {v : Nat} (hf : s.fresh = true) (hp : s.phase = 0) : awk 3 src s v = if (aV s v).2 = -1 then (((v : Int), -1), true) else (aV s v, false) := by
  unfold awk
  rw [if_neg (by simp [hf])]
  unfold wkF
  rw [if_neg (by omega), if_neg (by omega)]
  by_cases hb : (aV s v).2 = -1
  · rw [if_neg (by simp [hb]), if_pos hp, if_pos (by simp [hf]), if_pos hb]
  · rw [if_pos hb, if_neg hb]
theorem awk_back {s : RSt} {v : Nat} (hf : s.fresh = false) (hp : s.phase = 1) : awk 3 src s v = if (aV s v).2 = -1 ∧ (aV s v).1 ∈ mL s v then (((aV s v).1, (aV s v).1), true) else (aV s v, false) := by
  unfold awk
  split
  · rename_i h; rw [h.2, if_neg (by simp)]
  · unfold wkF
    rw [if_neg (by omega), if_neg (by omega)]
    by_cases hb : (aV s v).2 = -1
    · rw [if_neg (by simp [hb]), if_neg (by omega)]
      unfold bkB
      rw [hf]
      by_cases hm : (aV s v).1 ∈ mL s v
      · rw [if_pos (show (aV s v).2 = -1 ∧ (aV s v).1 ∈ mL s v from ⟨hb, hm⟩)]; simp [hm]
      · rw [if_neg (by simp [hm])]; simp [hm]
    · rw [if_pos hb, if_neg (by simp [hb])]
theorem awk_backB {s : RSt} {v : Nat} (hf : s.fresh = true) (hp : s.phase = 1) : awk 3 src s v = if (aV s v).2 = -1 ∧ (aV s v).1 = (v : Int) then (((aV s v).1, (aV s v).1), true) else (aV s v, false) := by
  unfold awk
  rw [if_neg (by simp [hf])]
  unfold wkF
  rw [if_neg (by omega), if_neg (by omega)]
  by_cases hb : (aV s v).2 = -1
  · rw [if_neg (by simp [hb]), if_neg (by omega)]
    unfold bkB
    rw [hf]
    by_cases hm : (aV s v).1 = (v : Int)
    · rw [if_pos (show (aV s v).2 = -1 ∧ (aV s v).1 = (v : Int) from ⟨hb, hm⟩)]; simp [hm]
    · rw [if_neg (by simp [hm])]; simp [hm]
  · rw [if_pos hb, if_neg (by simp [hb])]
theorem nextF_fwd {s : RSt} (hd : s.done = false) (hp : s.phase = 0) :
    (anyL (nMail 3 src N E s) = true ∧ (nextF 3 src N E s).done = false ∧ (nextF 3 src N E s).fresh = false ∧ (nextF 3 src N E s).phase = 0) ∨ (anyL (nMail 3 src N E s) = false ∧ (nextF 3 src N E s).done = false ∧ (nextF 3 src N E s).fresh = true ∧ (nextF 3 src N E s).phase = 1) := by
  unfold nextF
  rw [if_neg (by simp [hd])]
  by_cases ha : anyL (nMail 3 src N E s) = true
  · left; rw [if_pos ha]; exact ⟨ha, rfl, rfl, hp⟩
  · right; rw [if_neg ha, if_neg (by omega), if_pos hp]; exact ⟨by simpa using ha, rfl, rfl, rfl⟩
theorem nextF_back {s : RSt} (hd : s.done = false) (hp : s.phase = 1) :
    (anyL (nMail 3 src N E s) = true ∧ (nextF 3 src N E s).done = false ∧ (nextF 3 src N E s).fresh = false ∧ (nextF 3 src N E s).phase = 1) ∨
    (anyL (nMail 3 src N E s) = false ∧ (∃ v, v < N ∧ (aV (nextF 3 src N E s) v).2 = -1) ∧ (nextF 3 src N E s).done = false ∧ (nextF 3 src N E s).fresh = true ∧ (nextF 3 src N E s).phase = 0) ∨
    (anyL (nMail 3 src N E s) = false ∧ (∀ v, v < N → (aV (nextF 3 src N E s) v).2 ≠ -1) ∧ (nextF 3 src N E s).done = true) := by
  have hv := fun v hv => nextF_aV (kind := 3) (src := src) (N := N) (E := E) hd (v := v) hv
  unfold nextF at *
  rw [if_neg (by simp [hd])] at *
  by_cases ha : anyL (nMail 3 src N E s) = true
  · left; rw [if_pos ha]; exact ⟨ha, rfl, rfl, hp⟩
  · right
    have ha' : anyL (nMail 3 src N E s) = false := by simpa using ha
    rw [if_neg ha, if_neg (by omega), if_neg (by omega)] at *
    by_cases hu : ((nVals 3 src N s).any fun x => x.2 == -1) = true
    · left
      rw [if_pos hu] at *
      obtain ⟨x, hx, hx2⟩ := List.any_eq_true.1 hu
      unfold nVals at hx
      obtain ⟨v, hvm, rfl⟩ := List.mem_map.1 hx
      have hvN := List.mem_range.1 hvm
      refine ⟨ha', ⟨v, hvN, ?_⟩, rfl, rfl, rfl⟩
      rw [hv v hvN]
      simpa using hx2
    · right
      rw [if_neg hu] at *
      refine ⟨ha', fun v hvN h => hu ?_, rfl⟩
      rw [hv v hvN] at h
      refine List.any_eq_true.2 ⟨(awk 3 src s v).1, List.mem_map.2 ⟨v, List.mem_range.2 hvN, rfl⟩, by simp [h]⟩
theorem mL_none {kind : Nat} {s : RSt} (hd : s.done = false) (h : anyL (nMail kind src N E s) = false) (v : Nat) : mL (nextF kind src N E s) v = [] := by
  unfold mL; rw [(nextF_vals hd).2.1]; exact anyL_false h v
theorem mL_some {kind : Nat} {s : RSt} (hd : s.done = false) (h : anyL (nMail kind src N E s) = true) : ∃ v, v < N ∧ mL (nextF kind src N E s) v ≠ [] := by
  obtain ⟨t, ht, hne⟩ := anyL_true h
  refine ⟨t, ht, ?_⟩
  unfold mL; rw [(nextF_vals hd).2.1]; exact hne
theorem fwd_next {B : Nat → Int} {k : Nat} {s : RSt} (hG : InG N E) (hd : s.done = false) (hp : s.phase = 0) (hlb : ∀ v, v < N → (aV (nextF 3 src N E s) v).2 = B v)
    (hmp : MP N (RA 3 0 E) (Un B) (fun v => (v : Int)) k (fun v => (aV (nextF 3 src N E s) v).1) (mL (nextF 3 src N E s))) :
    FwdS N E B k (nextF 3 src N E s) ∨ BackB N E B (nextF 3 src N E s) := by
  rcases nextF_fwd (src := src) (N := N) (E := E) hd hp with ⟨h1, h2, h3, h4⟩ | ⟨h1, h2, h3, h4⟩
  · exact .inl ⟨h2, h3, h4, hlb, hmp, mL_some hd h1⟩
  · exact .inr ⟨h2, h3, h4, hlb, hmp.end (RA.ok hG) (fun v _ => mL_none hd h1 v)⟩
theorem fwd_step {B : Nat → Int} {k : Nat} {s : RSt} (hG : InG N E) (h : FwdS N E B k s) : FwdS N E B (k + 1) (nextF 3 src N E s) ∨ BackB N E B (nextF 3 src N E s) := by
  have ha := fun v => awk_fwd (src := src) (s := s) (v := v) h.nf h.ph
  refine fwd_next hG h.nd h.ph (fun v hv => ?_) ?_
  · rw [nextF_aV h.nd hv, ha, ← h.lb v hv]; split <;> rfl
  · refine h.mp.step (said := fun v => v < N ∧ (awk 3 src s v).2 = true) (RA.ok hG) (fun v hv hU => ?_) (fun v hv hU => ?_) (fun v hv => ?_) (fun v hv m => ?_)
    · rw [nextF_aV h.nd hv, ha, if_pos ((h.lb v hv).trans hU)]
    · rw [nextF_aV h.nd hv, ha, if_neg (fun e => hU ((h.lb v hv).symm.trans e))]
    · rw [nextF_aV h.nd hv, ha]
      by_cases hU : (aV s v).2 = -1
      · have hU' : Un B v := (h.lb v hv).symm.trans hU
        rw [if_pos hU]
        obtain ⟨l1, -⟩ := lw_all (mL s v) (aV s v).1 (h.mp.low v hv) (h.mp.pos v hv)
        dsimp only
        rw [l1]
        simp [hv, hU']
      · rw [if_neg hU]
        simp
    · rw [nextF_mL h.nd hv, h.ph]
      constructor
      · rintro ⟨u, w, hr, hs, rfl⟩
        exact ⟨u, w, hr, hs, by rw [nextF_aV h.nd hs.1]⟩
      · rintro ⟨u, w, hr, hs, rfl⟩
        exact ⟨u, w, hr, hs, by rw [nextF_aV h.nd hs.1]⟩
theorem fwd_start {B : Nat → Int} {s : RSt} (hG : InG N E) (h : FwdB N B s) : FwdS N E B 1 (nextF 3 src N E s) ∨ BackB N E B (nextF 3 src N E s) := by
  have ha := fun v => awk_fwdB (src := src) (s := s) (v := v) h.fr h.ph
  refine fwd_next hG h.nd h.ph (fun v hv => ?_) ?_
  · rw [nextF_aV h.nd hv, ha, ← h.lb v hv]; split
    · rename_i e; exact e.symm
    · rfl
  · refine MP.start (RA.ok hG) (fun v hv hU => ?_) (fun v hv => ?_) (fun v hv m => ?_)
    · rw [nextF_aV h.nd hv, ha, if_pos ((h.lb v hv).trans hU)]
    · rw [nextF_aV h.nd hv, ha]
      split
      · show (-1 : Int) ≤ (v : Int); omega
      · exact h.low v hv
    · rw [nextF_mL h.nd hv, h.ph]
      have key : ∀ u, u < N → ((awk 3 src s u).2 = true ↔ (Un B u ∧ (0 : Int) ≤ (u : Int))) := fun u hu => by
        rw [ha]
        by_cases hU : (aV s u).2 = -1
        · have hU' : Un B u := (h.lb u hu).symm.trans hU
          rw [if_pos hU]; simp [hU']
        · have hU' : ¬ Un B u := fun e => hU ((h.lb u hu).trans e)
          rw [if_neg hU]; simp [hU']
      constructor
      · rintro ⟨u, w, hr, hs, rfl⟩
        exact ⟨u, w, hr, (key u hs.1).1 hs.2, by rw [nextF_aV h.nd hs.1]⟩
      · rintro ⟨u, w, hr, hs, rfl⟩
        have hu := (RA.ok hG u v w hr).1
        exact ⟨u, w, hr, ⟨hu, (key u hu).2 hs⟩, by rw [nextF_aV h.nd hu]⟩
/-- how many have no label -/
def unl (N : Nat) (s : RSt) : Nat := (List.range N).countP fun v => (aV s v).2 == -1
theorem unl_le (N : Nat) (s : RSt) : unl N s ≤ N := by
  have := List.countP_le_length (p := fun v => (aV s v).2 == -1) (l := List.range N)
  rwa [List.length_range] at this
theorem countP_mono {p q : Nat → Bool} : ∀ (l : List Nat), (∀ x ∈ l, p x = true → q x = true) → l.countP p ≤ l.countP q
  | [], _ => Nat.le_refl _
  | a :: l, h => by
    have ih := countP_mono l (fun x hx => h x (by simp [hx]))
    have ha := h a (by simp)
    rw [List.countP_cons, List.countP_cons]
    by_cases e : p a = true
    · rw [if_pos e, if_pos (ha e)]; omega
    · rw [if_neg e]; omega
theorem countP_lt {p q : Nat → Bool} : ∀ (l : List Nat), (∀ x ∈ l, p x = true → q x = true) → (∃ x ∈ l, p x = false ∧ q x = true) → l.countP p < l.countP q
  | [], _, h => by obtain ⟨x, hx, _⟩ := h; cases hx
  | a :: l, h, hx => by
    have hm := countP_mono l (fun x hx => h x (by simp [hx]))
    have ha := h a (by simp)
    rw [List.countP_cons, List.countP_cons]
    by_cases e : p a = false ∧ q a = true
    · rw [if_neg (by simp [e.1]), if_pos e.2]; omega
    · have ih := countP_lt l (fun x hx => h x (by simp [hx])) (by
        obtain ⟨x, hx, h1⟩ := hx
        rcases List.mem_cons.1 hx with rfl | hx
        · exact absurd h1 e
        · exact ⟨x, hx, h1⟩)
      by_cases e2 : p a = true
      · rw [if_pos e2, if_pos (ha e2)]; omega
      · rw [if_neg e2]; omega
/-- in the phase back: A is what was found forward, B the labels ahead of it -/
structure BackC (N : Nat) (E : List Eg) (A B : Nat → Int) (s : RSt) : Prop where
  va : ∀ v, v < N → (aV s v).1 = A v
  old : ∀ v, v < N → B v ≠ -1 → (aV s v).2 = B v
  new : ∀ v, v < N → B v = -1 → (aV s v).2 ≠ -1 → (aV s v).2 = A v ∧ 0 ≤ A v ∧ Rch E v (A v).toNat
  root : ∀ v, v < N → B v = -1 → A v = (v : Int) → (aV s v).2 ≠ -1
  arc : ∀ p v a, (p, v, a) ∈ E → B v = -1 → (aV s v).2 ≠ -1 → B p = -1 → A p = A v → (aV s p).2 ≠ -1 ∨ A v ∈ mL s p
  mw : ∀ p, p < N → ∀ m ∈ mL s p, ∃ v a, (p, v, a) ∈ E ∧ B v = -1 ∧ (aV s v).2 ≠ -1 ∧ m = A v
structure BackS (N : Nat) (E : List Eg) (A B : Nat → Int) (s : RSt) : Prop where
  nd : s.done = false
  nf : s.fresh = false
  ph : s.phase = 1
  co : BackC N E A B s
/-- where no mail is left behind the phase back -/
structure BackE (N : Nat) (E : List Eg) (A B : Nat → Int) (s : RSt) : Prop where
  old : ∀ v, v < N → B v ≠ -1 → (aV s v).2 = B v
  new : ∀ v, v < N → B v = -1 → (aV s v).2 ≠ -1 → (aV s v).2 = A v ∧ 0 ≤ A v ∧ Rch E v (A v).toNat
  root : ∀ v, v < N → B v = -1 → A v = (v : Int) → (aV s v).2 ≠ -1
  arc : ∀ p v a, (p, v, a) ∈ E → B v = -1 → (aV s v).2 ≠ -1 → B p = -1 → A p = A v → (aV s p).2 ≠ -1
theorem ra_back {p v : Nat} {w : Int} : RA 3 1 E v p w ↔ w = 0 ∧ ∃ a, (p, v, a) ∈ E := by
  unfold RA
  constructor
  · rintro ⟨a, rfl, ⟨h, _⟩ | ⟨_, h⟩⟩
    · simp [wayO] at h
    · exact ⟨by simp [sayF], a, h⟩
  · rintro ⟨rfl, a, h⟩
    exact ⟨a, by simp [sayF], .inr ⟨by simp [wayI], h⟩⟩
theorem backC_end {A B : Nat → Int} {s : RSt} (h : BackC N E A B s) (hm : ∀ v, mL s v = []) : BackE N E A B s :=
  ⟨h.old, h.new, h.root, fun p v a he h1 h2 h3 h4 => by
    rcases h.arc p v a he h1 h2 h3 h4 with h5 | h5
    · exact h5
    · rw [hm p] at h5; cases h5⟩
theorem backC_step {A B : Nat → Int} {s : RSt} (hG : InG N E) (h : BackS N E A B s) : BackC N E A B (nextF 3 src N E s) ∧ ∀ v, v < N → (aV s v).2 ≠ -1 → (aV (nextF 3 src N E s) v).2 ≠ -1 := by
  have hc := h.co
  have ha := fun v => awk_back (src := src) (s := s) (v := v) h.nf h.ph
  have hn := fun v hv => nextF_aV (kind := 3) (src := src) (N := N) (E := E) h.nd (v := v) hv
  have keep : ∀ v, v < N → (aV s v).2 ≠ -1 → aV (nextF 3 src N E s) v = aV s v := fun v hv hb => by
    rw [hn v hv, ha, if_neg (by simp [hb])]
  have pos : ∀ v, v < N → ∀ m ∈ mL s v, 0 ≤ m := fun v hv m hm => by
    obtain ⟨u, a, he, h1, h2, rfl⟩ := hc.mw v hv m hm
    exact (hc.new u (hG _ he).2.1 h1 h2).2.1
  have said : ∀ v, v < N → (aV s v).2 = -1 → A v ∈ mL s v → (awk 3 src s v).2 = true ∧ (awk 3 src s v).1 = (A v, A v) ∧ 0 ≤ A v := fun v hv hb hm => by
    rw [ha, if_pos ⟨hb, by rw [hc.va v hv]; exact hm⟩, hc.va v hv]
    exact ⟨rfl, rfl, pos v hv _ hm⟩
  have cases' : ∀ v, v < N → (aV (nextF 3 src N E s) v).2 ≠ -1 → (aV s v).2 ≠ -1 ∨ ((aV s v).2 = -1 ∧ A v ∈ mL s v) := fun v hv hb => by
    by_cases h1 : (aV s v).2 = -1
    · right
      refine ⟨h1, ?_⟩
      by_cases h2 : (aV s v).1 ∈ mL s v
      · rw [hc.va v hv] at h2; exact h2
      · rw [hn v hv, ha, if_neg (by simp [h2])] at hb
        exact absurd h1 hb
    · exact .inl h1
  refine ⟨⟨fun v hv => ?_, fun v hv hb => ?_, fun v hv hb hl => ?_, fun v hv hb hr => ?_, fun p v a he hb hl hp hA => ?_, fun p hp m hm => ?_⟩, fun v hv hb => by rw [keep v hv hb]; exact hb⟩
  · rw [hn v hv, ha]; split <;> exact hc.va v hv
  · have := hc.old v hv hb
    rw [keep v hv (by rw [this]; exact hb)]; exact this
  · rcases cases' v hv hl with h1 | ⟨h1, h2⟩
    · rw [keep v hv h1]; exact hc.new v hv hb h1
    · obtain ⟨-, s2, s3⟩ := said v hv h1 h2
      rw [hn v hv, s2]
      refine ⟨rfl, s3, ?_⟩
      obtain ⟨u, a, he, b1, b2, b3⟩ := hc.mw v hv _ h2
      obtain ⟨-, -, c3⟩ := hc.new u (hG _ he).2.1 b1 b2
      rw [b3]
      exact (Rch.on .here he).trans c3
  · have := hc.root v hv hb hr
    rw [keep v hv this]; exact this
  · have hvN := (hG _ he).2.1
    have hpN := (hG _ he).1
    rcases cases' v hvN hl with h1 | ⟨h1, h2⟩
    · rcases hc.arc p v a he hb h1 hp hA with h3 | h3
      · left; rw [keep p hpN h3]; exact h3
      · left
        by_cases h4 : (aV s p).2 = -1
        · obtain ⟨-, s2, s3⟩ := said p hpN h4 (by rw [hA]; exact h3)
          rw [hn p hpN, s2]
          dsimp only; omega
        · rw [keep p hpN h4]; exact h4
    · right
      obtain ⟨s1, s2, -⟩ := said v hvN h1 h2
      rw [nextF_mL h.nd hpN, h.ph]
      exact ⟨v, 0, ra_back.2 ⟨rfl, a, he⟩, ⟨hvN, s1⟩, by rw [s2]; dsimp only; omega⟩
  · rw [nextF_mL h.nd hp, h.ph] at hm
    obtain ⟨u, w, hr, ⟨hu, hs⟩, rfl⟩ := hm
    obtain ⟨rfl, a, he⟩ := ra_back.1 hr
    rw [ha] at hs
    split at hs
    · rename_i h1
      rw [hc.va u hu] at h1
      obtain ⟨s1, s2, s3⟩ := said u hu h1.1 h1.2
      refine ⟨u, a, he, Classical.byContradiction fun hb => ?_, ?_, ?_⟩
      · have := hc.old u hu hb
        rw [h1.1] at this
        exact hb this.symm
      · rw [hn u hu, s2]; dsimp only; omega
      · rw [s2]; dsimp only; omega
    · cases hs
theorem backC_start {B : Nat → Int} {s : RSt} (hG : InG N E) (h : BackB N E B s) : BackC N E (fun v => (aV s v).1) B (nextF 3 src N E s) := by
  have ha := fun v => awk_backB (src := src) (s := s) (v := v) h.fr h.ph
  have hn := fun v hv => nextF_aV (kind := 3) (src := src) (N := N) (E := E) h.nd (v := v) hv
  have said : ∀ v, v < N → B v = -1 → (aV s v).1 = (v : Int) → (awk 3 src s v).2 = true ∧ (awk 3 src s v).1 = ((aV s v).1, (aV s v).1) := fun v hv hb hr => by
    rw [ha, if_pos ⟨(h.lb v hv).trans hb, hr⟩]
    exact ⟨rfl, rfl⟩
  have not : ∀ v, v < N → ¬ (B v = -1 ∧ (aV s v).1 = (v : Int)) → awk 3 src s v = (aV s v, false) := fun v hv hb => by
    rw [ha, if_neg (fun hh => hb ⟨(h.lb v hv).symm.trans hh.1, hh.2⟩)]
  have isr : ∀ v, v < N → B v = -1 → (aV (nextF 3 src N E s) v).2 ≠ -1 → (aV s v).1 = (v : Int) := fun v hv hb hl => by
    refine Classical.byContradiction fun hr => hl ?_
    rw [hn v hv, not v hv (fun hh => hr hh.2)]
    exact (h.lb v hv).trans hb
  refine ⟨fun v hv => ?_, fun v hv hb => ?_, fun v hv hb hl => ?_, fun v hv hb hr => ?_, fun p v a he hb hl hp hA => ?_, fun p hp m hm => ?_⟩
  · rw [hn v hv, ha]; split <;> rfl
  · rw [hn v hv, not v hv (fun hh => hb hh.1)]; exact h.lb v hv
  · have hr := isr v hv hb hl
    rw [hn v hv, (said v hv hb hr).2]
    refine ⟨rfl, by rw [hr]; omega, ?_⟩
    rw [hr]; exact .here
  · rw [hn v hv, (said v hv hb hr).2]
    dsimp only; omega
  · have hvN := (hG _ he).2.1
    have hpN := (hG _ he).1
    have hr := isr v hvN hb hl
    right
    rw [nextF_mL h.nd hpN, h.ph]
    obtain ⟨s1, s2⟩ := said v hvN hb hr
    exact ⟨v, 0, ra_back.2 ⟨rfl, a, he⟩, ⟨hvN, s1⟩, by rw [s2]; dsimp only; omega⟩
  · rw [nextF_mL h.nd hp, h.ph] at hm
    obtain ⟨u, w, hr, ⟨hu, hs⟩, rfl⟩ := hm
    obtain ⟨rfl, a, he⟩ := ra_back.1 hr
    by_cases hh : B u = -1 ∧ (aV s u).1 = (u : Int)
    · obtain ⟨s1, s2⟩ := said u hu hh.1 hh.2
      refine ⟨u, a, he, hh.1, ?_, ?_⟩
      · rw [hn u hu, s2]; dsimp only; omega
      · rw [s2]; dsimp only; omega
    · rw [not u hu hh] at hs; cases hs
/-- behind a round of the phase back -/
theorem back_out {A B : Nat → Int} {s : RSt} (hd : s.done = false) (hp : s.phase = 1) (hlow : ∀ v, v < N → -1 ≤ A v) (hC : BackC N E A B (nextF 3 src N E s)) :
    (BackS N E A B (nextF 3 src N E s) ∧ ∃ v, v < N ∧ mL (nextF 3 src N E s) v ≠ []) ∨
    (BackE N E A B (nextF 3 src N E s) ∧ FwdB N (fun v => (aV (nextF 3 src N E s) v).2) (nextF 3 src N E s) ∧ ∃ v, v < N ∧ (aV (nextF 3 src N E s) v).2 = -1) ∨
    (BackE N E A B (nextF 3 src N E s) ∧ (nextF 3 src N E s).done = true ∧ ∀ v, v < N → (aV (nextF 3 src N E s) v).2 ≠ -1) := by
  rcases nextF_back (src := src) (N := N) (E := E) hd hp with ⟨h1, h2, h3, h4⟩ | ⟨h1, h2, h3, h4, h5⟩ | ⟨h1, h2, h3⟩
  · exact .inl ⟨⟨h2, h3, h4, hC⟩, mL_some hd h1⟩
  · exact .inr (.inl ⟨backC_end hC (mL_none hd h1), ⟨h3, h4, h5, fun _ _ => rfl, fun v hv => by rw [hC.va v hv]; exact hlow v hv⟩, h2⟩)
  · exact .inr (.inr ⟨backC_end hC (mL_none hd h1), h3, h2⟩)
/-- so many rounds on -/
inductive To (nx : RSt → RSt) : Nat → RSt → RSt → Prop
  | here {s : RSt} : To nx 0 s s
  | go {k : Nat} {s s' : RSt} : s.done = false → To nx k (nx s) s' → To nx (k + 1) s s'
theorem To.ends {nx : RSt → RSt} {Q : RSt → Prop} {k n : Nat} {s s' : RSt} (h : To nx k s s') (h2 : EndsIn nx Q n s') : EndsIn nx Q (k + n) s := by
  induction h with
  | here => rw [Nat.zero_add]; exact h2
  | @go k s s' hd _ ih => rw [show k + 1 + n = (k + n) + 1 by omega]; exact .go hd (ih h2)
theorem fwd_to {B : Nat → Int} (hG : InG N E) : ∀ (j k : Nat) (s : RSt), FwdS N E B k s → N < k + j → ∃ K s', K ≤ j ∧ To (nextF 3 src N E) K s s' ∧ BackB N E B s'
  | 0, k, s, h, hj => by
    obtain ⟨v, hv, hm⟩ := h.some
    have := h.mp.bound hv hm
    omega
  | j + 1, k, s, h, hj => by
    rcases fwd_step (src := src) hG h with h1 | h1
    · obtain ⟨K, s', hK, hT, hB⟩ := fwd_to hG j (k + 1) _ h1 (by omega)
      exact ⟨K + 1, s', by omega, .go h.nd hT, hB⟩
    · exact ⟨1, _, by omega, .go h.nd .here, h1⟩
theorem fwd_all {B : Nat → Int} {s : RSt} (hG : InG N E) (h : FwdB N B s) : ∃ K s', K ≤ N + 1 ∧ To (nextF 3 src N E) K s s' ∧ BackB N E B s' := by
  rcases fwd_start (src := src) hG h with h1 | h1
  · obtain ⟨K, s', hK, hT, hB⟩ := fwd_to (src := src) hG N 1 _ h1 (by omega)
    exact ⟨K + 1, s', by omega, .go h.nd hT, hB⟩
  · exact ⟨1, _, by omega, .go h.nd .here, h1⟩
/-- what comes of the phase back -/
def BackOut (src : Int) (N : Nat) (E : List Eg) (A B : Nat → Int) (j : Nat) (s : RSt) : Prop :=
  ∃ K s', K ≤ j ∧ To (nextF 3 src N E) K s s' ∧ BackE N E A B s' ∧ ((FwdB N (fun v => (aV s' v).2) s' ∧ ∃ v, v < N ∧ (aV s' v).2 = -1) ∨ (s'.done = true ∧ ∀ v, v < N → (aV s' v).2 ≠ -1))
theorem back_to {A B : Nat → Int} (hG : InG N E) (hlow : ∀ v, v < N → -1 ≤ A v) : ∀ (j : Nat) (s : RSt), BackS N E A B s → unl N s ≤ j → BackOut src N E A B (j + 1) s := by
  intro j
  induction j with
  | zero =>
    intro s h hj
    obtain ⟨hC, hk⟩ := backC_step (src := src) hG h
    rcases back_out h.nd h.ph hlow hC with ⟨-, v, hv, hm⟩ | ⟨h1, h2⟩ | ⟨h1, h2⟩
    · exfalso
      obtain ⟨m, hm⟩ := List.exists_mem_of_ne_nil _ hm
      rw [nextF_mL h.nd hv, h.ph] at hm
      obtain ⟨u, w, -, ⟨hu, hs⟩, -⟩ := hm
      rw [awk_back h.nf h.ph] at hs
      split at hs
      · rename_i h1
        unfold unl at hj
        have h0 : (List.range N).countP (fun v => (aV s v).2 == -1) = 0 := by omega
        rw [List.countP_eq_zero] at h0
        exact h0 u (List.mem_range.2 hu) (by simp [h1.1])
      · cases hs
    · exact ⟨1, _, by omega, .go h.nd .here, h1, .inl h2⟩
    · exact ⟨1, _, by omega, .go h.nd .here, h1, .inr h2⟩
  | succ j ih =>
    intro s h hj
    obtain ⟨hC, hk⟩ := backC_step (src := src) hG h
    rcases back_out h.nd h.ph hlow hC with ⟨hS, v, hv, hm⟩ | ⟨h1, h2⟩ | ⟨h1, h2⟩
    · have hlt : unl N (nextF 3 src N E s) < unl N s := by
        obtain ⟨m, hm⟩ := List.exists_mem_of_ne_nil _ hm
        rw [nextF_mL h.nd hv, h.ph] at hm
        obtain ⟨u, w, -, ⟨hu, hs⟩, -⟩ := hm
        have ha := awk_back (src := src) (v := u) h.nf h.ph
        rw [ha] at hs
        split at hs
        · rename_i h1
          refine countP_lt _ (fun x hx hx1 => ?_) ⟨u, List.mem_range.2 hu, ?_, by simp [h1.1]⟩
          · have hx := List.mem_range.1 hx
            have h3 : (aV (nextF 3 src N E s) x).2 = -1 := by simpa using hx1
            have h4 : (aV s x).2 = -1 := Classical.byContradiction fun hb => hk x hx hb h3
            simp [h4]
          · rw [nextF_aV h.nd hu, ha, if_pos h1]
            have hp := h.co.mw u hu _ h1.2
            obtain ⟨y, a, he, b1, b2, b3⟩ := hp
            have := (h.co.new y (hG _ he).2.1 b1 b2).2.1
            simp; omega
        · cases hs
      obtain ⟨K, s', hK, hT, h1, h2⟩ := ih _ hS (by omega)
      exact ⟨K + 1, s', by omega, .go h.nd hT, h1, h2⟩
    · exact ⟨1, _, by omega, .go h.nd .here, h1, .inl h2⟩
    · exact ⟨1, _, by omega, .go h.nd .here, h1, .inr h2⟩
theorem back_all {B : Nat → Int} {s : RSt} (hG : InG N E) (hN : 1 ≤ N) (h : BackB N E B s) : BackOut src N E (fun v => (aV s v).1) B (N + 2) s := by
  have hC := backC_start (src := src) hG h
  have hlow : ∀ v, v < N → -1 ≤ (aV s v).1 := h.mp.low
  rcases back_out h.nd h.ph hlow hC with ⟨hS, -⟩ | ⟨h1, h2⟩ | ⟨h1, h2⟩
  · obtain ⟨K, s', hK, hT, h1, h2⟩ := back_to (src := src) hG hlow _ _ hS (unl_le N _)
    exact ⟨K + 1, s', by omega, .go h.nd hT, h1, h2⟩
  · exact ⟨1, _, by omega, .go h.nd .here, h1, .inl h2⟩
  · exact ⟨1, _, by omega, .go h.nd .here, h1, .inr h2⟩
/-- labels are right, and whole classes have one -/
structure Lab (N : Nat) (E : List Eg) (B : Nat → Int) : Prop where
  ok : ∀ v, v < N → B v ≠ -1 → B v = lbl E N v
  cl : ∀ u v, u < N → v < N → Mut E u v → B v ≠ -1 → B u ≠ -1
theorem wt3 {B : Nat → Int} {v : Nat} {m : Int} (h : Wt (RA 3 0 E) (Un B) (fun v => (v : Int)) v m) : ∃ x : Nat, m = (x : Int) ∧ Un B x ∧ Rch E x v := by
  induction h with
  | @here v hU _ => exact ⟨v, rfl, hU, .here⟩
  | @on u v w m _ hr _ ih =>
    obtain ⟨a, rfl, hr⟩ := hr
    obtain ⟨x, rfl, hx, hr2⟩ := ih
    rcases hr with ⟨-, he⟩ | ⟨hw, -⟩
    · exact ⟨x, by simp [sayF], hx, .on hr2 he⟩
    · simp [wayI] at hw
theorem rch3 {B : Nat → Int} {v y : Nat} {m : Int} (hG : InG N E) (hL : Lab N E B) (hv : v < N) (hU : Un B v) (h : Wt (RA 3 0 E) (Un B) (fun v => (v : Int)) v m) (hr : Rch E v y) : Rch E y v → Wt (RA 3 0 E) (Un B) (fun v => (v : Int)) y m := by
  induction hr with
  | here => exact fun _ => h
  | @on x y a hx he ih =>
    intro hy
    have hyN : y < N := (hG _ he).2.1
    have hUy : Un B y := Classical.byContradiction fun hb => hL.cl v y hv hyN ⟨.on hx he, hy⟩ hb hU
    have e : m = m + 0 := by omega
    rw [e]
    exact .on (ih ((Rch.on .here he).trans hy)) ⟨a, by simp [sayF], .inl ⟨by simp [wayO], he⟩⟩ hUy
section
variable {A B : Nat → Int} (hG : InG N E) (hL : Lab N E B) (hM : MPEnd N (RA 3 0 E) (Un B) (fun v => (v : Int)) A)
include hG hL hM
theorem a_le {x v : Nat} (hv : v < N) (hU : Un B v) (h : Mut E x v) : A v ≤ (x : Int) ∧ 0 ≤ A v := by
  have hx : x < N := h.2.lt hG hv
  have hUx : Un B x := Classical.byContradiction fun hb => hL.cl v x hv hx h.symm hb hU
  have := hM.le v _ hv (rch3 hG hL hx hUx (.here hUx (Int.natCast_nonneg x)) h.1 h.2)
  exact ⟨this.2, this.1⟩
theorem a_same {x v : Nat} (hv : v < N) (hU : Un B v) (h : Mut E x v) : A x = A v := by
  have hx : x < N := h.2.lt hG hv
  have hUx : Un B x := Classical.byContradiction fun hb => hL.cl v x hv hx h.symm hb hU
  have h0 := (a_le hG hL hM hv hU h).2
  have h0x := (a_le hG hL hM hx hUx h.symm).2
  have h1 := hM.le x _ hx (rch3 hG hL hv hU (hM.wit v hv hU h0) h.2 h.1)
  have h2 := hM.le v _ hv (rch3 hG hL hx hUx (hM.wit x hx hUx h0x) h.1 h.2)
  omega
theorem a_low {v : Nat} (hv : v < N) (hU : Un B v) (hr : Rch E v (A v).toNat) : A v = lbl E N v ∧ ∃ x : Nat, x < N ∧ A v = (x : Int) ∧ Un B x ∧ Mut E x v := by
  have h0 := (a_le hG hL hM hv hU (Mut.refl E v)).2
  obtain ⟨x, hx, hUx, hxr⟩ := wt3 (hM.wit v hv hU h0)
  have hm : Mut E x v := ⟨hxr, by have := hr; rw [hx] at this; simpa using this⟩
  refine ⟨?_, x, hm.2.lt hG hv, hx, hUx, hm⟩
  obtain ⟨v', e1, -, e3, e4⟩ := lbl_end (E := E) hv
  rw [hx, e1]
  have h1 : ¬ x < v' := fun h => e4 x h hm
  have h2 : ¬ v' < x := fun h => by
    have := (a_le hG hL hM hv hU e3).1
    omega
  omega
theorem lab_next {s : RSt} (hE : BackE N E A B s) : Lab N E (fun v => (aV s v).2) := by
  refine ⟨fun v hv hb => ?_, fun u v hu hv hm hb => ?_⟩
  · by_cases hB : B v = -1
    · obtain ⟨h1, h2, h3⟩ := hE.new v hv hB hb
      rw [h1]
      exact (a_low hG hL hM hv hB h3).1
    · rw [hE.old v hv hB]; exact hL.ok v hv hB
  · by_cases hB : B v = -1
    · obtain ⟨h1, h2, h3⟩ := hE.new v hv hB hb
      obtain ⟨-, x, hxN, hx, hUx, hxm⟩ := a_low hG hL hM hv hB h3
      have hux : Mut E u x := hm.trans hxm.symm
      have hAx : A x = (x : Int) := by rw [← hx]; exact a_same hG hL hM hv hB hxm
      have hroot := hE.root x hxN hUx hAx
      have key : ∀ y, Rch E u y → Mut E y x → (aV s y).2 ≠ -1 → (aV s u).2 ≠ -1 := fun y hy => by
        induction hy with
        | here => exact fun _ h => h
        | @on y' y a hy' he ih =>
          intro hyx hly
          have hy'x : Mut E y' x := ⟨(Rch.on .here he).trans hyx.1, hux.2.trans hy'⟩
          have hyN := (hG _ he).2.1
          have hy'N := (hG _ he).1
          have hBy : B y = -1 := Classical.byContradiction fun hb => hL.cl x y hxN hyN hyx.symm hb hUx
          have hBy' : B y' = -1 := Classical.byContradiction fun hb => hL.cl x y' hxN hy'N hy'x.symm hb hUx
          have hA : A y' = A y := by
            rw [a_same hG hL hM hxN hUx hy'x, a_same hG hL hM hxN hUx hyx]
          exact ih hy'x (hE.arc y' y a he hBy hly hBy' hA)
      exact key x hux.1 (Mut.refl E x) hroot
    · have h1 := hL.cl u v hu hv hm hB
      rw [hE.old u hu h1]; exact h1
theorem lab_less {s : RSt} (hE : BackE N E A B s) {v : Nat} (hv : v < N) (hB : B v = -1) : unl N s < (List.range N).countP fun v => B v == -1 := by
  obtain ⟨r, hr, hrm, hrl⟩ : ∃ r, r < N ∧ B r = -1 ∧ ∀ x, x < r → B x ≠ -1 := by
    clear hE
    induction v using Nat.strongRecOn with
    | ind v ih =>
      by_cases h : ∃ x, x < v ∧ B x = -1
      · obtain ⟨x, h1, h2⟩ := h
        exact ih x h1 (by omega) h2
      · exact ⟨v, hv, hB, fun x hx hb => h ⟨x, hx, hb⟩⟩
  obtain ⟨h1, h0⟩ := a_le hG hL hM hr hrm (Mut.refl E r)
  obtain ⟨x, hx, hUx, -⟩ := wt3 (hM.wit r hr hrm h0)
  have hge : ¬ x < r := fun h => hrl x h hUx
  have hl := hE.root r hr hrm (by omega)
  refine countP_lt _ (fun y hy hy1 => ?_) ⟨r, List.mem_range.2 hr, by simpa using hl, by simp [hrm]⟩
  have hy := List.mem_range.1 hy
  have h3 : (aV s y).2 = -1 := by simpa using hy1
  have : B y = -1 := Classical.byContradiction fun hb => by
    have h4 := hE.old y hy hb
    rw [h3] at h4
    exact hb h4.symm
  simp [this]
end
def EndS (N : Nat) (E : List Eg) (s : RSt) : Prop := ∀ v, v < N → (aV s v).2 = lbl E N v
theorem strong_ends (hG : InG N E) (hN : 1 ≤ N) : ∀ (u : Nat) (B : Nat → Int) (s : RSt), FwdB N B s → Lab N E B → (∃ v, v < N ∧ B v = -1) → (List.range N).countP (fun v => B v == -1) ≤ u → ∃ K, K ≤ u * (2 * N + 3) ∧ EndsIn (nextF 3 src N E) (EndS N E) K s
  | 0, B, s, h, hL, ⟨v, hv, hB⟩, hu => by
    have h0 : (List.range N).countP (fun v => B v == -1) = 0 := by omega
    rw [List.countP_eq_zero] at h0
    exact absurd (by simp [hB]) (h0 v (List.mem_range.2 hv))
  | u + 1, B, s, h, hL, ⟨v, hv, hB⟩, hu => by
    obtain ⟨K1, s1, hK1, hT1, hB1⟩ := fwd_all (src := src) hG h
    obtain ⟨K2, s2, hK2, hT2, hE, hO⟩ := back_all (src := src) hG hN hB1
    have hLn := lab_next hG hL hB1.mp hE
    have hlt := lab_less hG hL hB1.mp hE hv hB
    have e : (u + 1) * (2 * N + 3) = u * (2 * N + 3) + (2 * N + 3) := Nat.succ_mul _ _
    rcases hO with ⟨hF, hv2⟩ | ⟨hd, hall⟩
    · obtain ⟨K3, hK3, hE3⟩ := strong_ends hG hN u _ s2 hF hLn hv2 (by unfold unl at hlt; omega)
      exact ⟨K1 + (K2 + K3), by omega, hT1.ends (hT2.ends hE3)⟩
    · exact ⟨K1 + (K2 + 0), by omega, hT1.ends (hT2.ends (.stop hd (fun v hv => hLn.ok v hv (hall v hv))))⟩
/-- the run of a job of the third kind -/
theorem strong_run (hG : InG N E) (hN : 1 ≤ N) : ∃ K, 1 ≤ K ∧ K ≤ N * (2 * N + 3) ∧ EndsIn (nextF 3 src N E) (EndS N E) K (beginF N) := by
  have e1 : ∀ v, v < N → aV (beginF N) v = (-1, -1) := fun v hv => by simp [aV, beginF, List.getD_eq_getElem?_getD, hv]
  have hF : FwdB N (fun _ => -1) (beginF N) := ⟨rfl, rfl, rfl, fun v hv => by rw [e1 v hv], fun v hv => by rw [e1 v hv]; exact Int.le_refl _⟩
  obtain ⟨K, hK, hE⟩ := strong_ends (src := src) hG hN N (fun _ => -1) (beginF N) hF ⟨fun v _ h => absurd rfl h, fun u v _ _ _ h => absurd rfl h⟩ ⟨0, by omega, rfl⟩ (by
    have := List.countP_le_length (p := fun _ : Nat => (-1 : Int) == -1) (l := List.range N)
    rwa [List.length_range] at this)
  refine ⟨K, ?_, hK, hE⟩
  rcases Nat.eq_zero_or_pos K with h | h
  · subst h
    cases hE with
    | stop h1 _ => cases h1
  · exact h
end
end Go.Proofs.Ytiaflhlfodcbjaa
