/- The plain law of a link's two ends: what is handed on is what was sent. No program in sight. -/
import Derived.Test.YtmadpjmlcooinaaLinkE
namespace Go.Proofs.Ytmadpjmlcooinaa
abbrev Ml := Nat × Nat
/-- both ends, and what is on the way -/
structure LS where
  ba : Nat
  loads : List Ml
  want : Nat
  pk : List (Nat × Ml)
  ak : List Nat
  got : List Ml
structure LInv (l : List Ml) (s : LS) : Prop where
  hl : s.loads = l.drop s.ba
  hb : s.ba ≤ s.want
  hw : s.want ≤ l.length
  h4 : s.want ≤ s.ba + 4
  hg : s.got = l.take s.want
  hp : ∀ q ∈ s.pk, l[q.1]? = some q.2 ∧ q.1 < s.ba + 4
  ha : ∀ a ∈ s.ak, a ≤ s.want
theorem linv_start (l : List Ml) : LInv l ⟨0, l, 0, [], [], []⟩ :=
  ⟨rfl, Nat.le_refl _, Nat.zero_le _, by show 0 ≤ 4; omega, rfl, fun _ h => (by cases h), fun _ h => (by cases h)⟩
theorem dueF_mem : ∀ (r : List Ml) (b : Nat) (q : Nat × Ml), q ∈ dueF b r → b ≤ q.1 ∧ q.1 < b + r.length ∧ r[q.1 - b]? = some q.2 := by
  intro r
  induction r with
  | nil => intro b q h; cases h
  | cons a r ih =>
    intro b q h
    rcases List.mem_cons.1 h with rfl | h
    · refine ⟨Nat.le_refl _, by simp, ?_⟩
      show (a :: r)[b - b]? = _
      rw [Nat.sub_self]; rfl
    · obtain ⟨h1, h2, h3⟩ := ih (b + 1) q h
      refine ⟨by omega, by rw [List.length_cons]; omega, ?_⟩
      rw [show q.1 - b = (q.1 - (b + 1)) + 1 from by omega]
      exact h3
/-- all that is due is sent -/
def LS.due (s : LS) : LS := { s with pk := s.pk ++ dueF s.ba (s.loads.take (min s.loads.length 4)) }
theorem linv_due {l : List Ml} {s : LS} (h : LInv l s) : LInv l s.due := by
  refine ⟨h.hl, h.hb, h.hw, h.h4, h.hg, ?_, h.ha⟩
  intro q hq
  rcases List.mem_append.1 hq with hq | hq
  · exact h.hp q hq
  · obtain ⟨h1, h2, h3⟩ := dueF_mem _ _ _ hq
    have h2' : q.1 < s.ba + min s.loads.length 4 := by
      rw [List.length_take] at h2; omega
    refine ⟨?_, by show q.1 < s.ba + 4; omega⟩
    rw [List.getElem?_take_of_lt (by omega), h.hl, List.getElem?_drop, show s.ba + (q.1 - s.ba) = q.1 from by omega] at h3
    exact h3
/-- a packet comes -/
def LS.hear (s : LS) (q : Nat × Ml) : LS :=
  if q.1 = s.want then { s with want := s.want + 1, got := s.got ++ [q.2], ak := s.ak ++ [s.want + 1] } else { s with ak := s.ak ++ [s.want] }
theorem linv_hear {l : List Ml} {s : LS} (h : LInv l s) {q : Nat × Ml} (hq : q ∈ s.pk) : LInv l (s.hear q) := by
  obtain ⟨h1, h2⟩ := h.hp q hq
  unfold LS.hear
  have hlt := (List.getElem?_eq_some_iff.1 h1).1
  split
  · next e =>
    rw [e] at h1 hlt h2
    refine ⟨h.hl, Nat.le_succ_of_le h.hb, hlt, h2, ?_, h.hp, ?_⟩
    · show s.got ++ [q.2] = l.take (s.want + 1)
      rw [List.take_add_one, h1, h.hg]; rfl
    · intro a ha
      rcases List.mem_append.1 ha with ha | ha
      · exact Nat.le_succ_of_le (h.ha a ha)
      · rw [List.mem_singleton.1 ha]; exact Nat.le_refl _
  · refine ⟨h.hl, h.hb, h.hw, h.h4, h.hg, h.hp, ?_⟩
    intro a ha
    rcases List.mem_append.1 ha with ha | ha
    · exact h.ha a ha
    · rw [List.mem_singleton.1 ha]; exact Nat.le_refl _
/-- an ack comes -/
def LS.acked (s : LS) (a : Nat) : LS := { s with ba := s.ba + (a - s.ba), loads := s.loads.drop (a - s.ba) }
theorem linv_acked {l : List Ml} {s : LS} (h : LInv l s) {a : Nat} (ha : a ∈ s.ak) : LInv l (s.acked a) := by
  have h1 := h.ha a ha
  have h2 := h.hb
  have h3 := h.h4
  refine ⟨?_, by show s.ba + (a - s.ba) ≤ s.want; omega, h.hw, by show s.want ≤ s.ba + (a - s.ba) + 4; omega, h.hg, ?_, h.ha⟩
  · show s.loads.drop _ = l.drop _
    rw [h.hl, List.drop_drop]; rfl
  · intro q hq
    obtain ⟨h4, h5⟩ := h.hp q hq
    exact ⟨h4, by show q.1 < s.ba + (a - s.ba) + 4; omega⟩
/-- an ack that came is within what flies -/
theorem linv_flies {l : List Ml} {s : LS} (h : LInv l s) {a : Nat} (ha : a ∈ s.ak) : a ≤ s.ba + min s.loads.length 4 := by
  have h1 := h.ha a ha
  have h2 := h.hw
  have h3 := h.h4
  have h4 : s.loads.length = l.length - s.ba := by rw [h.hl, List.length_drop]
  omega
theorem linv_lost {l : List Ml} {s : LS} (h : LInv l s) : LInv l { s with pk := [], ak := [] } :=
  ⟨h.hl, h.hb, h.hw, h.h4, h.hg, fun _ h => (by cases h), fun _ h => (by cases h)⟩
/-- how far the packets were heard in order -/
def HearPr (k : Nat) (s : LS) : Prop := (∀ m, (s.ba, m) ∈ s.pk.take k → s.ba + 1 ≤ s.want) ∧ (0 < k → s.want ∈ s.ak)
theorem hear_fields (s : LS) (q : Nat × Ml) : (s.hear q).ba = s.ba ∧ (s.hear q).loads = s.loads ∧ (s.hear q).pk = s.pk ∧ (s.hear q).want = (if q.1 = s.want then s.want + 1 else s.want) ∧ (s.hear q).ak = s.ak ++ [(s.hear q).want] ∧ (s.hear q).got = (if q.1 = s.want then s.got ++ [q.2] else s.got) := by
  unfold LS.hear
  split <;> exact ⟨rfl, rfl, rfl, rfl, rfl, rfl⟩
theorem hearPr_step {l : List Ml} {s : LS} (hi : LInv l s) {k : Nat} (h : HearPr k s) {q : Nat × Ml} (hq : s.pk[k]? = some q) : HearPr (k + 1) (s.hear q) := by
  obtain ⟨e1, e2, e3, e4, e5, e6⟩ := hear_fields s q
  refine ⟨?_, fun _ => by rw [e5]; simp⟩
  intro m hm
  rw [e1, e3] at *
  rw [List.take_add_one, hq] at hm
  rw [e4]
  have hb := hi.hb
  rcases List.mem_append.1 hm with hm | hm
  · have := h.1 m hm
    split <;> omega
  · have e : (s.ba, m) = q := by simpa using hm
    have e' : q.1 = s.ba := by rw [← e]
    split <;> omega
theorem hearPr_zero (s : LS) : HearPr 0 s := ⟨fun m h => by simp at h, fun h => by omega⟩
/-- how far the link has come in the last rounds -/
def Prog (L T i : Nat) (s : LS) : Prop := ∀ q ph, i = 3 * (T / 3 + 1) + 3 * q + ph → ph < 3 →
  min L q ≤ s.ba ∧ (ph = 1 → s.ba < L → ∃ m, (s.ba, m) ∈ s.pk) ∧ (ph = 2 → s.ba < L → s.ba + 1 ≤ s.want ∧ s.want ∈ s.ak)
theorem prog_early (L T i : Nat) (s : LS) (hi : i ≤ T) : Prog L T i s := fun q ph h1 h2 => by omega
theorem prog_end {L T i : Nat} {s : LS} (h : Prog L T i s) (hi : i = T + 3 * (L + 2)) : L ≤ s.ba := by
  have hd : T / 3 * 3 ≤ T ∧ T < T / 3 * 3 + 3 := by omega
  obtain ⟨h1, _⟩ := h ((i - 3 * (T / 3 + 1)) / 3) ((i - 3 * (T / 3 + 1)) % 3) (by omega) (by omega)
  omega
theorem prog_due {l : List Ml} {T i : Nat} {s : LS} (hi : LInv l s) (h : Prog l.length T i s) (h3 : i % 3 = 0) : Prog l.length T (i + 1) s.due := by
  intro q ph h1 h2
  obtain rfl : ph = 1 := by omega
  obtain ⟨g1, _, _⟩ := h q 0 (by omega) (by omega)
  refine ⟨g1, fun _ hlt => ?_, fun h => by omega⟩
  have hn : 0 < s.loads.length := by rw [hi.hl, List.length_drop]; have : s.ba < l.length := hlt; omega
  obtain ⟨a, r, e⟩ : ∃ a r, s.loads.take (min s.loads.length 4) = a :: r := by
    cases hh : s.loads.take (min s.loads.length 4) with
    | nil => rw [List.take_eq_nil_iff] at hh; rcases hh with hh | hh; · omega
             · rw [hh] at hn; simp at hn
    | cons a r => exact ⟨a, r, rfl⟩
  refine ⟨a, List.mem_append.2 (.inr ?_)⟩
  rw [e]
  exact List.mem_cons_self
theorem prog_hear {l : List Ml} {T i : Nat} {s0 s : LS} (h : Prog l.length T i s0) (h3 : i % 3 = 1) (hp : HearPr s0.pk.length s) (hb : s.ba = s0.ba) (hk : s.pk = s0.pk) : Prog l.length T (i + 1) s := by
  intro q ph h1 h2
  obtain rfl : ph = 2 := by omega
  obtain ⟨g1, g2, _⟩ := h q 1 (by omega) (by omega)
  refine ⟨by omega, fun h => by omega, fun _ hlt => ?_⟩
  obtain ⟨m, hm⟩ := g2 rfl (by omega)
  have hpos : 0 < s0.pk.length := List.length_pos_of_mem hm
  refine ⟨hp.1 m ?_, hp.2 hpos⟩
  rw [hk, List.take_length, hb]
  exact hm
theorem prog_ack {l : List Ml} {T i : Nat} {s0 s : LS} (h : Prog l.length T i s0) (h3 : i % 3 = 2) (hp : ∀ a ∈ s0.ak, a ≤ s.ba) (hb : s0.ba ≤ s.ba) : Prog l.length T (i + 1) s := by
  intro q ph h1 h2
  obtain rfl : ph = 0 := by omega
  by_cases hq0 : q = 0
  · exact ⟨by omega, fun h => by omega, fun h => by omega⟩
  obtain ⟨q', rfl⟩ : ∃ q', q = q' + 1 := ⟨q - 1, by omega⟩
  obtain ⟨g1, _, g3⟩ := h q' 2 (by omega) (by omega)
  refine ⟨?_, fun h => by omega, fun h => by omega⟩
  by_cases hlt : s0.ba < l.length
  · obtain ⟨g4, g5⟩ := g3 rfl hlt
    have := hp _ g5
    omega
  · omega
end Go.Proofs.Ytmadpjmlcooinaa
