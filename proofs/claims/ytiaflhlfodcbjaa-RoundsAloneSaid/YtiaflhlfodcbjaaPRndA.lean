/- The order of edges does not matter, nor an edge that stands twice: plain laws. No program walked. -/
import Derived.Test.YtiaflhlfodcbjaaRdRun
namespace Go.Proofs.Ytiaflhlfodcbjaa
theorem lwA_same {a : Int} {l r : List Int} (ha : -1 ≤ a) (hl : ∀ m ∈ l, 0 ≤ m) (h : ∀ m, m ∈ l ↔ m ∈ r) : lwA a l = lwA a r ∧ lwS a false l = lwS a false r := by
  have hr : ∀ m ∈ r, 0 ≤ m := fun m hm => hl m ((h m).2 hm)
  obtain ⟨l1, l2, l3, -, l5, l6, l7⟩ := lw_all l a ha hl
  obtain ⟨r1, r2, r3, -, r5, r6, r7⟩ := lw_all r a ha hr
  have e : lwA a l = lwA a r := by
    by_cases hn : l = []
    · subst hn
      have : r = [] := List.eq_nil_iff_forall_not_mem.2 (fun m hm => by have := (h m).2 hm; cases this)
      rw [this]
    · have hn2 : r ≠ [] := fun e => hn (List.eq_nil_iff_forall_not_mem.2 (fun m hm => by have := (h m).1 hm; rw [e] at this; cases this))
      have h1 := l7 hn
      have h2 := r7 hn2
      have h3 : lwA a r ≤ lwA a l := by
        rcases l6 with h4 | h4
        · omega
        · exact r5 _ ((h _).1 h4)
      have h5 : lwA a l ≤ lwA a r := by
        rcases r6 with h4 | h4
        · omega
        · exact l5 _ ((h _).2 h4)
      omega
  exact ⟨e, by rw [l1, r1, e]⟩
/-- states that differ in how often a piece of mail stands -/
structure SameS (N : Nat) (s t : RSt) : Prop where
  step : s.step = t.step
  phase : s.phase = t.phase
  fresh : s.fresh = t.fresh
  done : s.done = t.done
  vals : s.vals = t.vals
  mail : ∀ v, v < N → ∀ m, m ∈ mL s v ↔ m ∈ mL t v
theorem awk_same {kind N : Nat} {src : Int} {s t : RSt} (h : SameS N s t) (hG : GoodS kind N s) {v : Nat} (hv : v < N) : awk kind src s v = awk kind src t v := by
  have hm := h.mail v hv
  have hl : ∀ m ∈ mL s v, 0 ≤ m := fun m hm => (hG.ma v hv m hm).1
  obtain ⟨w1, w2⟩ := lwA_same (hG.va v hv).1.1 hl hm
  have hnil : (mL s v = []) = (mL t v = []) := propext ⟨fun e => List.eq_nil_iff_forall_not_mem.2 (fun m hq => by have := (hm m).2 hq; rw [e] at this; cases this), fun e => List.eq_nil_iff_forall_not_mem.2 (fun m hq => by have := (hm m).1 hq; rw [e] at this; cases this)⟩
  have hav : aV s v = aV t v := by unfold aV; rw [h.vals]
  have hbk : bkB (v : Int) (aV s v).1 s.fresh (mL s v) = bkB (v : Int) (aV t v).1 t.fresh (mL t v) := by
    unfold bkB
    rw [hav, h.fresh]
    split
    · rfl
    · exact decide_eq_decide.2 (hm _)
  rw [hav] at w1 w2
  unfold awk wkF
  simp only [hnil, h.fresh, h.phase, hav, w1, w2]
  rw [hav, h.fresh] at hbk
  rw [hbk]
theorem RA_same {kind phase : Nat} {E F : List Eg} (h : ∀ e, e ∈ E ↔ e ∈ F) (u t : Nat) (w : Int) : RA kind phase E u t w ↔ RA kind phase F u t w := by
  unfold RA
  constructor
  · rintro ⟨a, hw, h1⟩
    exact ⟨a, hw, h1.imp (fun x => ⟨x.1, (h _).1 x.2⟩) (fun x => ⟨x.1, (h _).1 x.2⟩)⟩
  · rintro ⟨a, hw, h1⟩
    exact ⟨a, hw, h1.imp (fun x => ⟨x.1, (h _).2 x.2⟩) (fun x => ⟨x.1, (h _).2 x.2⟩)⟩
theorem any_same {kind N : Nat} {src : Int} {E F : List Eg} {s t : RSt} (hm : ∀ v, v < N → ∀ m, m ∈ (nMail kind src N E s).getD v [] ↔ m ∈ (nMail kind src N F t).getD v []) : anyL (nMail kind src N E s) = anyL (nMail kind src N F t) := by
  have key : ∀ (E F : List Eg) (s t : RSt), (∀ v, v < N → ∀ m, m ∈ (nMail kind src N E s).getD v [] → m ∈ (nMail kind src N F t).getD v []) → anyL (nMail kind src N E s) = true → anyL (nMail kind src N F t) = true := by
    intro E F s t h h1
    obtain ⟨v, hv, hne⟩ := anyL_true h1
    obtain ⟨m, hm⟩ := List.exists_mem_of_ne_nil _ hne
    have h2 := h v hv m hm
    apply Classical.byContradiction
    intro hf
    have h3 := anyL_false (by simpa using hf) v
    rw [h3] at h2
    cases h2
  have h1 := key E F s t (fun v hv m h => (hm v hv m).1 h)
  have h2 := key F E t s (fun v hv m h => (hm v hv m).2 h)
  cases ha : anyL (nMail kind src N E s) <;> cases hb : anyL (nMail kind src N F t)
  · rfl
  · rw [h2 hb] at ha; cases ha
  · rw [h1 ha] at hb; cases hb
  · rfl
theorem next_same {kind N : Nat} {src : Int} {E F : List Eg} {s t : RSt} (h : SameS N s t) (hG : GoodS kind N s) (hE : ∀ e, e ∈ E ↔ e ∈ F) : SameS N (nextF kind src N E s) (nextF kind src N F t) := by
  by_cases hd : s.done = true
  · rw [show nextF kind src N E s = s from by unfold nextF; rw [if_pos hd], show nextF kind src N F t = t from by unfold nextF; rw [if_pos (by rw [← h.done]; exact hd)]]
    exact h
  have hd1 : s.done = false := by simpa using hd
  have hd2 : t.done = false := by rw [← h.done]; exact hd1
  have haw : ∀ v, v < N → awk kind src s v = awk kind src t v := fun v hv => awk_same h hG hv
  have hv : nVals kind src N s = nVals kind src N t := by
    unfold nVals
    exact List.map_congr_left (fun v hv => by rw [haw v (List.mem_range.1 hv)])
  have hm : ∀ v, v < N → ∀ m, m ∈ (nMail kind src N E s).getD v [] ↔ m ∈ (nMail kind src N F t).getD v [] := fun v hv m => by
    rw [nMail_at hv, nMail_at hv, sortI_mem, sortI_mem, mem_boxOf, mem_boxOf, mem_upMsgs, mem_upMsgs]
    constructor
    · rintro ⟨u, w, hr, ⟨hu, hs⟩, rfl⟩
      exact ⟨u, w, by rw [← h.phase]; exact (RA_same hE _ _ _).1 hr, ⟨hu, by rw [← haw u hu]; exact hs⟩, by rw [haw u hu]⟩
    · rintro ⟨u, w, hr, ⟨hu, hs⟩, rfl⟩
      exact ⟨u, w, by rw [h.phase]; exact (RA_same hE _ _ _).2 hr, ⟨hu, by rw [haw u hu]; exact hs⟩, by rw [haw u hu]⟩
  have ha := any_same hm
  have hm2 : ∀ v, v < N → ∀ m, m ∈ mL (nextF kind src N E s) v ↔ m ∈ mL (nextF kind src N F t) v := fun v hv m => by
    unfold mL; rw [(nextF_vals hd1).2.1, (nextF_vals hd2).2.1]; exact hm v hv m
  have hx : (nextF kind src N E s).step = (nextF kind src N F t).step ∧ (nextF kind src N E s).phase = (nextF kind src N F t).phase ∧ (nextF kind src N E s).fresh = (nextF kind src N F t).fresh ∧ (nextF kind src N E s).done = (nextF kind src N F t).done ∧ (nextF kind src N E s).vals = (nextF kind src N F t).vals := by
    have hd3 : ¬ t.done = true := by rw [hd2]; simp
    unfold nextF
    rw [if_neg hd, if_neg hd3, ← ha, ← hv, ← h.phase, ← h.step]
    (repeat' split) <;> exact ⟨rfl, rfl, rfl, rfl, rfl⟩
  exact ⟨hx.1, hx.2.1, hx.2.2.1, hx.2.2.2.1, hx.2.2.2.2, hm2⟩
theorem st_same {kind N : Nat} {src : Int} {E F : List Eg} (hG : InG N E) (hN : 1 ≤ N ∧ N ≤ 10) (hE20 : E.length ≤ 20) (hE : ∀ e, e ∈ E ↔ e ∈ F) : ∀ i, SameS N (itF (nextF kind src N E) i (beginF N)) (itF (nextF kind src N F) i (beginF N))
  | 0 => ⟨rfl, rfl, rfl, rfl, rfl, fun _ _ _ => Iff.rfl⟩
  | i + 1 => by
    rw [itF_succ, itF_succ]
    exact next_same (st_same hG hN hE20 hE i) (it_good hG hN hE20 i).1 hE
theorem ends_same {kind N : Nat} {src : Int} {E F : List Eg} (hG : InG N E) (hE : ∀ e, e ∈ E ↔ e ∈ F) {K : Nat} {s : RSt} (h : EndsIn (nextF kind src N E) (fun _ => True) K s) : (hN : 1 ≤ N ∧ N ≤ 10) → E.length ≤ 20 → ∀ t, SameS N s t → GoodS kind N s → EndsIn (nextF kind src N F) (fun _ => True) K t := by
  induction h with
  | stop h1 _ => exact fun _ _ t ht _ => .stop (by rw [← ht.done]; exact h1) trivial
  | go h1 _ ih => exact fun hN hE20 t ht hg => .go (by rw [← ht.done]; exact h1) (ih hN hE20 _ (next_same ht hg hE) (next_good hG hN hE20 hg))
theorem runs_same {kind N K : Nat} {src : Int} {E F : List Eg} (hG : InG N E) (hN : 1 ≤ N ∧ N ≤ 10) (hE20 : E.length ≤ 20) (hE : ∀ e, e ∈ E ↔ e ∈ F) (h : RunsIn kind src N E K) : RunsIn kind src N F K :=
  ⟨h.K1, h.K2, h.K3, h.K4, h.K5, ends_same hG hE h.ends hN hE20 _ ⟨rfl, rfl, rfl, rfl, rfl, fun _ _ _ => Iff.rfl⟩ (begin_good hN.1)⟩
end Go.Proofs.Ytiaflhlfodcbjaa
