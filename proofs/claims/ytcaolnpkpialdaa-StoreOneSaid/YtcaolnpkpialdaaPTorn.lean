/- The plain law of frames whose end is torn off. No program in sight. -/
import Derived.Test.YtcaolnpkpialdaaPFrame
namespace Go.Proofs.Ytcaolnpkpialdaa
theorem getF_torn : ∀ (k n i acc m : Nat), n ≤ k → i + (put n).length ≤ 10 → m < (put n).length → getF i acc ((put n).take m) = (0, 0, 4) := by
  intro k
  induction k with
  | zero =>
    intro n i acc m hn _ hm
    obtain rfl : n = 0 := by omega
    have e : put 0 = [0] := rfl
    rw [e] at hm ⊢
    obtain rfl : m = 0 := by simpa using hm
    rfl
  | succ k ih =>
    intro n i acc m hn hi hm
    by_cases hc : 128 ≤ n
    · have e : put n = (n % 128 + 128) :: put (n / 128) := put_ge hc
      rw [e] at hm hi ⊢
      cases m with
      | zero => rw [List.take_zero]; exact getF_nil _ _
      | succ m =>
        rw [List.take_succ_cons]
        rw [List.length_cons] at hm hi
        have hpl : 0 < (put (n / 128)).length := by omega
        rw [getF_on (by omega) (by omega)]
        exact ih _ _ _ _ (by omega) (by omega) (by omega)
    · have e : put n = [n] := put_lt (by omega)
      rw [e] at hm ⊢
      obtain rfl : m = 0 := by simpa using hm
      rfl
theorem unwrapL_torn {b : List Nat} (hb : b.length ≤ 20000) {m : Nat} (hm : m < (wrapL b).length) : (unwrapL ((wrapL b).take m)).2.2 ≠ 0 := by
  have hu : b.length < U64 := by unfold U64; omega
  have hpl : (put b.length).length ≤ 10 := put_len10 hu
  by_cases hc : m < (put b.length).length
  · have e : (wrapL b).take m = (put b.length).take m := by
      unfold wrapL bodyL
      rw [List.append_assoc, List.take_append_of_le_length (by omega)]
    rw [e, unwrapL_get (N := 0) (k := 0) (e := 4) (getF_torn _ _ 0 0 m (Nat.le_refl _) (by omega) hc) (by decide)]
    decide
  · have e : (wrapL b).take m = put b.length ++ (b ++ le4 (sumL (bodyL b))).take (m - (put b.length).length) := by
      unfold wrapL
      conv => lhs; rw [show bodyL b ++ le4 (sumL (bodyL b)) = put b.length ++ (b ++ le4 (sumL (bodyL b))) from by unfold bodyL; rw [List.append_assoc]]
      rw [List.take_append, List.take_of_length_le (by omega)]
    have hg := getL_put hu ((b ++ le4 (sumL (bodyL b))).take (m - (put b.length).length))
    rw [← e] at hg
    have hl : ((wrapL b).take m).length = m := by rw [List.length_take]; omega
    rw [wrapL_len] at hm
    rw [unwrapL_short hg (by omega) (by omega)]
    decide
theorem unwrapL_ok_len {l p : List Nat} {n : Nat} (h : unwrapL l = (p, n, 0)) : 4 ≤ n ∧ n ≤ l.length := by
  unfold unwrapL at h
  split at h
  · rename_i h1; simp at h; exact absurd h.2.2 h1
  · split at h
    · simp at h
    · split at h
      · simp at h
      · split at h
        · simp at h
        · simp at h; omega
/-- all whole payloads that bytes begin with, and how many bytes these have -/
def allF : Nat → List Nat → List (List Nat) × Nat
  | 0, _ => ([], 0)
  | f + 1, l => if l = [] then ([], 0) else if (unwrapL l).2.2 ≠ 0 then ([], 0) else ((unwrapL l).1 :: (allF f (l.drop (unwrapL l).2.1)).1, (unwrapL l).2.1 + (allF f (l.drop (unwrapL l).2.1)).2)
theorem allF_nil (f : Nat) : allF f [] = ([], 0) := by cases f <;> simp [allF]
theorem allF_fuel : ∀ (f g : Nat) (l : List Nat), l.length ≤ f → l.length ≤ g → allF f l = allF g l := by
  intro f
  induction f with
  | zero =>
    intro g l h _
    obtain rfl : l = [] := List.eq_nil_of_length_eq_zero (by omega)
    rw [allF_nil, allF_nil]
  | succ f ih =>
    intro g l h1 h2
    cases g with
    | zero =>
      obtain rfl : l = [] := List.eq_nil_of_length_eq_zero (by omega)
      rw [allF_nil, allF_nil]
    | succ g =>
      unfold allF
      by_cases hl : l = []
      · rw [if_pos hl, if_pos hl]
      · rw [if_neg hl, if_neg hl]
        by_cases he : (unwrapL l).2.2 ≠ 0
        · rw [if_pos he, if_pos he]
        · rw [if_neg he, if_neg he]
          have hn := unwrapL_ok_len (l := l) (p := (unwrapL l).1) (n := (unwrapL l).2.1) (by
            have e : (unwrapL l).2.2 = 0 := by omega
            rw [← e])
          rw [ih g (l.drop (unwrapL l).2.1) (by rw [List.length_drop]; omega) (by rw [List.length_drop]; omega)]
def allL (l : List Nat) : List (List Nat) × Nat := allF l.length l
theorem allL_nil : allL [] = ([], 0) := rfl
theorem allL_bad {l : List Nat} (h : (unwrapL l).2.2 ≠ 0) : allL l = ([], 0) := by
  unfold allL
  cases hl : l.length with
  | zero => rfl
  | succ f => unfold allF; rw [if_pos h]; split <;> rfl
theorem allL_ok {l : List Nat} (h0 : l ≠ []) (h : (unwrapL l).2.2 = 0) : allL l = ((unwrapL l).1 :: (allL (l.drop (unwrapL l).2.1)).1, (unwrapL l).2.1 + (allL (l.drop (unwrapL l).2.1)).2) := by
  have hn := unwrapL_ok_len (l := l) (p := (unwrapL l).1) (n := (unwrapL l).2.1) (by rw [← h])
  have hlp : l.length ≠ 0 := fun e => h0 (List.eq_nil_of_length_eq_zero e)
  obtain ⟨f, hf⟩ : ∃ f, l.length = f + 1 := ⟨l.length - 1, by omega⟩
  have hd := List.length_drop (i := (unwrapL l).2.1) (l := l)
  show allF l.length l = _
  rw [hf]
  conv => lhs; unfold allF
  rw [if_neg h0, if_neg (by omega), allF_fuel f (l.drop (unwrapL l).2.1).length _ (by omega) (Nat.le_refl _)]; rfl
def tot (bs : List (List Nat)) : Nat := (bs.flatMap wrapL).length
theorem tot_cons (b : List Nat) (bs : List (List Nat)) : tot (b :: bs) = (wrapL b).length + tot bs := by unfold tot; rw [List.flatMap_cons, List.length_append]
theorem wrapL_pos (b : List Nat) : 4 < (wrapL b).length := by rw [wrapL_len]; have := put_pos b.length; omega
/-- of frames cut at k just the whole ones are had -/
theorem allL_frames : ∀ (bs : List (List Nat)) (k : Nat), (∀ b ∈ bs, b.length ≤ 20000) → k ≤ tot bs →
    ∃ j, j ≤ bs.length ∧ (∀ i, i < bs.length → (tot (bs.take (i + 1)) ≤ k ↔ i < j)) ∧ allL ((bs.flatMap wrapL).take k) = (bs.take j, tot (bs.take j)) := by
  intro bs
  induction bs with
  | nil => intro k _ _; exact ⟨0, Nat.le_refl _, fun i hi => by simp at hi, by simp [tot]; rfl⟩
  | cons b bs ih =>
    intro k hb hk
    have hbl := hb b (by simp)
    have hpos := wrapL_pos b
    rw [tot_cons] at hk
    by_cases hc : (wrapL b).length ≤ k
    · obtain ⟨j, h1, h2, h3⟩ := ih (k - (wrapL b).length) (fun x hx => hb x (by simp [hx])) (by omega)
      have e : ((b :: bs).flatMap wrapL).take k = wrapL b ++ (bs.flatMap wrapL).take (k - (wrapL b).length) := by
        rw [List.flatMap_cons, List.take_append, List.take_of_length_le hc]
      have hu := unwrapL_wrapL hbl ((bs.flatMap wrapL).take (k - (wrapL b).length))
      refine ⟨j + 1, by simp; omega, fun i hi => ?_, ?_⟩
      · cases i with
        | zero =>
          rw [List.take_succ_cons, List.take_zero, tot_cons]
          have : tot [] = 0 := rfl
          rw [this]; omega
        | succ i =>
          rw [List.take_succ_cons, tot_cons]
          have := h2 i (by simpa using hi)
          omega
      · rw [e, allL_ok (by intro e; have := congrArg List.length e; rw [List.length_append, List.length_nil] at this; omega) (by rw [hu]), hu, List.drop_left, h3, List.take_succ_cons, tot_cons]
    · refine ⟨0, Nat.zero_le _, fun i hi => ?_, ?_⟩
      · constructor
        · intro h
          rw [List.take_succ_cons, tot_cons] at h; omega
        · intro h; omega
      · have e : ((b :: bs).flatMap wrapL).take k = (wrapL b).take k := by
          rw [List.flatMap_cons, List.take_append_of_le_length (by omega)]
        rw [e, allL_bad (unwrapL_torn hbl (by omega))]; rfl
end Go.Proofs.Ytcaolnpkpialdaa
