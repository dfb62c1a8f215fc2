/- What is saved, as bytes: plain laws. No program walked. -/
import Derived.Test.YtmdbcknlipahgaaDoorPQueue
import Derived.Test.YtmdbcknlipahgaaDoorPFrame
namespace Go.Proofs.YtmdbcknlipahgaaDoor
open Go.RowKit Go.Sort Go.Proofs
/-- what is saved; a value's numbers are one greater than they are -/
structure Sv where
  step : Nat
  phase : Nat
  fresh : Bool
  vals : List (Nat × Nat)
  mail : List (Nat × Nat)
/-- its numbers are within their bounds -/
structure SvIn (s : Sv) : Prop where
  step : s.step ≤ 100000
  phase : s.phase ≤ 1
  nv : s.vals.length ≤ 200
  nm : s.mail.length ≤ 5000
  vals : ∀ v ∈ s.vals, v.1 ≤ 4398046511105 ∧ v.2 ≤ 200
  mail : ∀ m ∈ s.mail, okM m
/-- it may be saved -/
def SvOk (s : Sv) : Prop := SvIn s ∧ srt cfM s.mail = s.mail
def pairL (l : List (Nat × Nat)) : List Nat := l.flatMap fun m => put m.1 ++ put m.2
def b01 (b : Bool) : Nat := if b then 1 else 0
def encL (s : Sv) : List Nat := put s.step ++ (put s.phase ++ (put (b01 s.fresh) ++ (put s.vals.length ++ (pairL s.vals ++ (put s.mail.length ++ pairL s.mail)))))
theorem pairL_bytes (l : List (Nat × Nat)) : AllB (pairL l) := fun x hx => by
  obtain ⟨m, _, h⟩ := List.mem_flatMap.1 hx
  rcases List.mem_append.1 h with h | h
  · exact put_bytes _ _ (Nat.le_refl _) x h
  · exact put_bytes _ _ (Nat.le_refl _) x h
theorem allB_append {a b : List Nat} (ha : AllB a) (hb : AllB b) : AllB (a ++ b) := fun x hx => by
  rcases List.mem_append.1 hx with h | h
  · exact ha x h
  · exact hb x h
theorem allB_put (n : Nat) : AllB (put n) := put_bytes _ _ (Nat.le_refl _)
theorem encL_bytes (s : Sv) : AllB (encL s) :=
  allB_append (allB_put _) (allB_append (allB_put _) (allB_append (allB_put _) (allB_append (allB_put _) (allB_append (pairL_bytes _) (allB_append (allB_put _) (pairL_bytes _))))))
/-- one number taken; none: the bytes are bad -/
def gt (most : Nat) : Option (List Nat) → Nat × Option (List Nat)
  | none => (0, none)
  | some l => if (getL l).2.2 = 0 ∧ (getL l).1 ≤ most then ((getL l).1, some (l.drop (getL l).2.1)) else (0, none)
theorem gt_some (M : Nat) (l : List Nat) : gt M (some l) = if (getL l).2.2 = 0 ∧ (getL l).1 ≤ M then ((getL l).1, some (l.drop (getL l).2.1)) else (0, none) := rfl
theorem gt_none (M : Nat) : gt M none = (0, none) := rfl
theorem gt_ok {M : Nat} {l : List Nat} {n k : Nat} (h : getL l = (n, k, 0)) (hn : n ≤ M) : gt M (some l) = (n, some (l.drop k)) := by
  rw [gt_some, h]; simp [hn]
theorem gt_big {M : Nat} {l : List Nat} {n k : Nat} (h : getL l = (n, k, 0)) (hn : ¬ n ≤ M) : gt M (some l) = (0, none) := by
  rw [gt_some, h]; simp [hn]
theorem gt_err {M : Nat} {l : List Nat} {n k e : Nat} (h : getL l = (n, k, e)) (he : e ≠ 0) : gt M (some l) = (0, none) := by
  rw [gt_some, h]; simp [he]
theorem gt_put {M n : Nat} (h : n ≤ M) (hu : n < U64) (t : List Nat) : gt M (some (put n ++ t)) = (n, some t) := by
  rw [gt_ok (getL_put hu t) h, List.drop_left]
theorem gt_le (M : Nat) (st : Option (List Nat)) : (gt M st).1 ≤ M := by
  cases st with
  | none => exact Nat.zero_le _
  | some l =>
    rw [gt_some]
    split
    · rename_i h; exact h.2
    · exact Nat.zero_le _
theorem gt_fixed {M : Nat} {st : Option (List Nat)} {r : List Nat} (hb : ∀ l, st = some l → AllB l) (h : (gt M st).2 = some r) : st = some (put (gt M st).1 ++ r) ∧ AllB r := by
  cases st with
  | none => cases h
  | some l =>
    rw [gt_some] at h ⊢
    split at h
    · rename_i hc
      rw [if_pos hc]
      simp only [Option.some.injEq] at h
      have hl := hb l rfl
      have hf := getL_fixed hl hc.1
      refine ⟨?_, ?_⟩
      · show some l = some (put (getL l).1 ++ r)
        rw [hf.1, ← h, List.take_append_drop]
      · rw [← h]; exact fun x hx => hl x (List.mem_of_mem_drop hx)
    · cases h
/-- so many pairs of numbers taken -/
def prs (m1 m2 : Nat) : Nat → Option (List Nat) → List (Nat × Nat) × Option (List Nat)
  | 0, st => ([], st)
  | _ + 1, none => ([], none)
  | k + 1, some l => (((gt m1 (some l)).1, (gt m2 (gt m1 (some l)).2).1) :: (prs m1 m2 k (gt m2 (gt m1 (some l)).2).2).1, (prs m1 m2 k (gt m2 (gt m1 (some l)).2).2).2)
theorem prs_none (m1 m2 k : Nat) : prs m1 m2 k none = ([], none) := by cases k <;> rfl
theorem prs_succ (m1 m2 k : Nat) (l : List Nat) : prs m1 m2 (k + 1) (some l) = (((gt m1 (some l)).1, (gt m2 (gt m1 (some l)).2).1) :: (prs m1 m2 k (gt m2 (gt m1 (some l)).2).2).1, (prs m1 m2 k (gt m2 (gt m1 (some l)).2).2).2) := rfl
theorem prs_len (m1 m2 : Nat) : ∀ (k : Nat) (st : Option (List Nat)), (prs m1 m2 k st).1.length ≤ k
  | 0, _ => Nat.le_refl _
  | k + 1, none => Nat.zero_le _
  | k + 1, some l => by rw [prs_succ, List.length_cons]; have := prs_len m1 m2 k (gt m2 (gt m1 (some l)).2).2; omega
theorem prs_le (m1 m2 : Nat) : ∀ (k : Nat) (st : Option (List Nat)), ∀ x ∈ (prs m1 m2 k st).1, x.1 ≤ m1 ∧ x.2 ≤ m2
  | 0, _, x, hx => by cases hx
  | k + 1, none, x, hx => by cases hx
  | k + 1, some l, x, hx => by
    rw [prs_succ] at hx
    rcases List.mem_cons.1 hx with rfl | hx
    · exact ⟨gt_le _ _, gt_le _ _⟩
    · exact prs_le m1 m2 k _ x hx
theorem prs_fixed (m1 m2 : Nat) : ∀ (k : Nat) (st : Option (List Nat)) (r : List Nat), (∀ l, st = some l → AllB l) → (prs m1 m2 k st).2 = some r → st = some (pairL (prs m1 m2 k st).1 ++ r) ∧ AllB r ∧ (prs m1 m2 k st).1.length = k
  | 0, st, r, hb, h => by
    have h' : st = some r := h
    subst h'
    exact ⟨rfl, hb r rfl, rfl⟩
  | k + 1, none, r, _, h => by cases h
  | k + 1, some l, r, hb, h => by
    rw [prs_succ] at h ⊢
    have h : (prs m1 m2 k (gt m2 (gt m1 (some l)).2).2).2 = some r := h
    have hb2 : ∀ l', (gt m1 (some l)).2 = some l' → AllB l' := fun l' h' => (gt_fixed hb h').2
    have hb3 : ∀ l', (gt m2 (gt m1 (some l)).2).2 = some l' → AllB l' := fun l' h' => (gt_fixed hb2 h').2
    obtain ⟨h1, h2, h3⟩ := prs_fixed m1 m2 k _ r hb3 h
    obtain ⟨h4, -⟩ := gt_fixed hb2 h1
    obtain ⟨h5, -⟩ := gt_fixed hb h4
    refine ⟨?_, h2, by rw [List.length_cons, h3]⟩
    refine h5.trans ?_
    congr 1
    simp [pairL, List.append_assoc]
theorem prs_pair {m1 m2 : Nat} (hm1 : m1 < U64) (hm2 : m2 < U64) : ∀ (vs : List (Nat × Nat)) (t : List Nat), (∀ x ∈ vs, x.1 ≤ m1 ∧ x.2 ≤ m2) → prs m1 m2 vs.length (some (pairL vs ++ t)) = (vs, some t)
  | [], t, _ => rfl
  | x :: vs, t, h => by
    obtain ⟨h1, h2⟩ := h x (by simp)
    have ih := prs_pair hm1 hm2 vs t (fun y hy => h y (by simp [hy]))
    have e : pairL (x :: vs) ++ t = put x.1 ++ (put x.2 ++ (pairL vs ++ t)) := by simp [pairL, List.append_assoc]
    rw [List.length_cons, prs_succ, e, gt_put h1 (by omega)]
    simp only
    rw [gt_put h2 (by omega)]
    simp only
    rw [ih]
/-- what was saved -/
def decL (ink : List Nat) : Sv × Option (List Nat) :=
  let a := gt 100000 (some ink)
  let b := gt 1 a.2
  let c := gt 1 b.2
  let n := gt 200 c.2
  let v := prs 4398046511105 200 n.1 n.2
  let m := gt 5000 v.2
  let q := prs 199 4398046511104 m.1 m.2
  (⟨a.1, b.1, c.1 == 1, v.1, q.1⟩, q.2)
theorem decL_in (ink : List Nat) : SvIn (decL ink).1 where
  step := gt_le _ _
  phase := gt_le _ _
  nv := Nat.le_trans (prs_len _ _ _ _) (gt_le _ _)
  nm := Nat.le_trans (prs_len _ _ _ _) (gt_le _ _)
  vals := prs_le _ _ _ _
  mail := fun m hm => by have := prs_le _ _ _ _ m hm; exact ⟨by omega, this.2⟩
theorem decL_fixed {ink r : List Nat} (hb : AllB ink) (h : (decL ink).2 = some r) : ink = encL (decL ink).1 ++ r := by
  unfold decL at h ⊢
  dsimp only at h ⊢
  generalize ha : gt 100000 (some ink) = a at *
  generalize hbb : gt 1 a.2 = b at *
  generalize hc : gt 1 b.2 = c at *
  generalize hn : gt 200 c.2 = n at *
  generalize hv : prs 4398046511105 200 n.1 n.2 = v at *
  generalize hm : gt 5000 v.2 = m at *
  generalize hq : prs 199 4398046511104 m.1 m.2 = q at *
  have b0 : ∀ l, some ink = some l → AllB l := fun l h => by cases h; exact hb
  have b1 : ∀ l, a.2 = some l → AllB l := fun l h => by rw [← ha] at h; exact (gt_fixed b0 h).2
  have b2 : ∀ l, b.2 = some l → AllB l := fun l h => by rw [← hbb] at h; exact (gt_fixed b1 h).2
  have b3 : ∀ l, c.2 = some l → AllB l := fun l h => by rw [← hc] at h; exact (gt_fixed b2 h).2
  have b4 : ∀ l, n.2 = some l → AllB l := fun l h => by rw [← hn] at h; exact (gt_fixed b3 h).2
  have b5 : ∀ l, v.2 = some l → AllB l := fun l h => by rw [← hv] at h; exact (prs_fixed _ _ _ _ _ b4 h).2.1
  have b6 : ∀ l, m.2 = some l → AllB l := fun l h => by rw [← hm] at h; exact (gt_fixed b5 h).2
  rw [← hq] at h
  obtain ⟨g7, -, l7⟩ := prs_fixed _ _ _ _ _ b6 h
  rw [hq] at g7 l7
  rw [← hm] at g7
  obtain ⟨g6, -⟩ := gt_fixed b5 g7
  rw [hm, ← hv] at g6
  obtain ⟨g5, -, l5⟩ := prs_fixed _ _ _ _ _ b4 g6
  rw [hv, ← hn] at g5
  rw [hv] at l5
  obtain ⟨g4, -⟩ := gt_fixed b3 g5
  rw [hn, ← hc] at g4
  obtain ⟨g3, -⟩ := gt_fixed b2 g4
  rw [hc, ← hbb] at g3
  obtain ⟨g2, -⟩ := gt_fixed b1 g3
  rw [hbb, ← ha] at g2
  obtain ⟨g1, -⟩ := gt_fixed b0 g2
  rw [ha] at g1
  have e1 : b01 (c.1 == 1) = c.1 := by
    have : c.1 ≤ 1 := by rw [← hc]; exact gt_le _ _
    unfold b01
    rcases Nat.le_one_iff_eq_zero_or_eq_one.1 this with h | h <;> rw [h] <;> rfl
  have g1' := Option.some.inj g1
  rw [g1']
  unfold encL
  simp only [e1, l5, l7, List.append_assoc]
theorem b01_le (b : Bool) : b01 b ≤ 1 := by unfold b01; split <;> omega
theorem decL_enc {s : Sv} (h : SvIn s) : decL (encL s) = (s, some []) := by
  have u : ∀ n, n ≤ 4398046511105 → n < U64 := fun n h => by unfold U64; omega
  unfold decL encL
  dsimp only
  have h1 := h.step; have h2 := h.phase; have h3 := b01_le s.fresh; have h4 := h.nv; have h5 := h.nm
  rw [gt_put h1 (u _ (by omega))]; dsimp only
  rw [gt_put h2 (u _ (by omega))]; dsimp only
  rw [gt_put h3 (u _ (by omega))]; dsimp only
  rw [gt_put h4 (u _ (by omega))]; dsimp only
  rw [prs_pair (u _ (by omega)) (u _ (by omega)) _ _ h.vals]; dsimp only
  rw [gt_put h5 (u _ (by omega))]; dsimp only
  have := prs_pair (m1 := 199) (m2 := 4398046511104) (u _ (by omega)) (u _ (by omega)) s.mail [] (fun x hx => by have := h.mail x hx; exact ⟨by have := this.1; omega, this.2⟩)
  rw [List.append_nil] at this
  rw [this]; dsimp only
  have e : (b01 s.fresh == 1) = s.fresh := by cases s.fresh <;> rfl
  rw [e]
theorem le4_un4 {a b c d : Nat} (h1 : a < 256) (h2 : b < 256) (h3 : c < 256) (h4 : d < 256) : le4 (un4 [a, b, c, d]) = [a, b, c, d] := by
  rw [le4_eq, un4_four]
  congr 1
  · omega
  congr 1
  · omega
  congr 1
  · omega
  congr 1
  · omega
/-- a frame has one form -/
theorem unwrapL_fixed {l b : List Nat} (hl : AllB l) (h : unwrapL l = (b, l.length, 0)) : wrapL b = l ∧ b.length ≤ 20000 := by
  obtain ⟨N, k, e, hg⟩ : ∃ N k e, getL l = (N, k, e) := ⟨_, _, _, rfl⟩
  by_cases he : e = 0
  · subst he
    by_cases hN : 20000 < N
    · rw [unwrapL_size hg hN] at h; exact absurd (congrArg (fun x => x.2.2) h) (by simp)
    by_cases hs : l.length < k + N + 4
    · rw [unwrapL_short hg hN hs] at h; exact absurd (congrArg (fun x => x.2.2) h) (by simp)
    by_cases hq : un4 ((l.drop (k + N)).take 4) = sumL (l.take (k + N))
    · rw [unwrapL_ok hg hN hs hq] at h
      simp only [Prod.mk.injEq, and_true] at h
      obtain ⟨h1, h2⟩ := h
      have hf := getL_fixed hl (by rw [hg])
      rw [hg] at hf
      dsimp only at hf
      obtain ⟨f1, f2⟩ := hf
      have hbl : b.length = N := by rw [← h1, List.length_take, List.length_drop]; omega
      have hbody : bodyL b = l.take (k + N) := by
        unfold bodyL
        rw [hbl, f1, ← h1, List.take_add]
      have hd : (l.drop (k + N)).length = 4 := by rw [List.length_drop]; omega
      rw [List.take_of_length_le (by omega)] at hq
      have hle : le4 (sumL (l.take (k + N))) = l.drop (k + N) := by
        rw [← hq]
        have hbd : AllB (l.drop (k + N)) := fun x hx => hl x (List.mem_of_mem_drop hx)
        generalize l.drop (k + N) = t at hd hbd
        match t, hd with
        | [x, y, z, u], _ => exact le4_un4 (hbd _ (by simp)) (hbd _ (by simp)) (hbd _ (by simp)) (hbd _ (by simp))
      refine ⟨?_, by omega⟩
      unfold wrapL
      rw [hbody, hle, List.take_append_drop]
    · rw [unwrapL_sum hg hN hs hq] at h; exact absurd (congrArg (fun x => x.2.2) h) (by simp)
  · rw [unwrapL_get hg he] at h
    exact absurd (congrArg (fun x => x.2.2) h) he
/-- what Decode answers; none: an error -/
noncomputable def decodeL (l : List Nat) : Option Sv :=
  if (unwrapL l).2.2 = 0 ∧ (unwrapL l).2.1 = l.length ∧ (decL (unwrapL l).1).2 = some [] ∧ srt cfM (decL (unwrapL l).1).1.mail = (decL (unwrapL l).1).1.mail then some (decL (unwrapL l).1).1 else none
theorem decodeL_fixed {l : List Nat} (hl : AllB l) {s : Sv} (h : decodeL l = some s) : SvOk s ∧ wrapL (encL s) = l ∧ (encL s).length ≤ 20000 := by
  unfold decodeL at h
  split at h
  · rename_i hc
    obtain ⟨h0, h1, h2, h3⟩ := hc
    obtain ⟨b, k, e, hu⟩ : ∃ b k e, unwrapL l = (b, k, e) := ⟨_, _, _, rfl⟩
    rw [hu] at h0 h1 h2 h3 h
    dsimp only at h0 h1 h2 h3 h
    subst h0 h1
    obtain ⟨w1, w2⟩ := unwrapL_fixed hl hu
    have hbb : AllB b := fun x hx => hl x (by rw [← w1]; unfold wrapL bodyL; simp [hx])
    have hf := decL_fixed hbb h2
    rw [List.append_nil] at hf
    cases h
    refine ⟨⟨decL_in b, h3⟩, ?_, ?_⟩
    · rw [← hf]; exact w1
    · rw [← hf]; exact w2
  · cases h
theorem decodeL_enc {s : Sv} (h : SvOk s) (hl : (encL s).length ≤ 20000) : decodeL (wrapL (encL s)) = some s := by
  have hu := unwrapL_wrapL hl []
  rw [List.append_nil] at hu
  unfold decodeL
  rw [hu]
  dsimp only
  rw [decL_enc h.1]
  dsimp only
  rw [if_pos ⟨rfl, rfl, rfl, h.2⟩]
end Go.Proofs.YtmdbcknlipahgaaDoor
