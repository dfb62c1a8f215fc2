/- Mail cut in pieces, each put in order: plain laws, and a piece as it lies in memory. -/
import Derived.Test.YtcaolnpkpialdaaMLists
import Derived.Test.YtcaolnpkpialdaaSameMailU
namespace Go.Proofs.Ytcaolnpkpialdaa
open Go.RowKit Go.Sort Go.Proofs
/-- what stands while pieces are cut -/
structure Spl (l : List (Nat × Nat)) (k : Nat) (R : List (List (Nat × Nat))) : Prop where
  perm : R.flatten.Perm (l.take k)
  so : ∀ r ∈ R, r.Pairwise leM
theorem Spl.zero (l : List (Nat × Nat)) : Spl l 0 [] := ⟨by simp, fun r h => by cases h⟩
theorem Spl.put {l : List (Nat × Nat)} {k : Nat} {R : List (List (Nat × Nat))} (h : Spl l k R) (x : List (Nat × Nat)) (tt : Nat) (e : l.take tt = l.take k ++ x) : Spl l tt (R ++ [srt cfM x]) := by
  refine ⟨?_, fun r hr => ?_⟩
  · rw [List.flatten_append, e]
    simp only [List.flatten_cons, List.flatten_nil, List.append_nil]
    exact h.perm.append (srt_perm x)
  · rcases List.mem_append.1 hr with hr | hr
    · exact h.so r hr
    · rw [List.mem_singleton.1 hr]; exact srt_sorted swoM x
theorem Spl.step {l : List (Nat × Nat)} {k : Nat} {R : List (List (Nat × Nat))} (h : Spl l k R) (tt : Nat) (hk : k ≤ tt) : Spl l tt (R ++ [srt cfM ((l.drop k).take (tt - k))]) :=
  h.put _ tt (by
    have := List.take_add (l := l) (i := k) (j := tt - k)
    rw [show k + (tt - k) = tt by omega] at this
    exact this)
theorem Spl.last {l : List (Nat × Nat)} {k : Nat} {R : List (List (Nat × Nat))} (h : Spl l k R) : Spl l l.length (R ++ [srt cfM (l.drop k)]) :=
  h.put _ l.length (by rw [List.take_length, List.take_append_drop])
theorem Spl.done {l : List (Nat × Nat)} {R : List (List (Nat × Nat))} (h : Spl l l.length R) : srt cfM R.flatten = srt cfM l ∧ R.flatten.length = l.length := by
  have hp := h.perm
  rw [List.take_length] at hp
  exact ⟨srt_unique swoM totM ((srt_perm l).trans hp.symm) (srt_sorted swoM l), hp.length_eq⟩
theorem mcs_drop2 (l : List (Nat × Nat)) (k : Nat) : mcs (l.drop k) = (mcs l).drop (k * 2) := by
  induction k generalizing l with
  | zero => simp
  | succ k ih =>
    cases l with
    | nil => simp [mcs]
    | cons a l =>
      rw [List.drop_succ_cons, ih l]
      show _ = (_ :: _ :: mcs l).drop _
      rw [show (k + 1) * 2 = k * 2 + 1 + 1 by omega, List.drop_succ_cons, List.drop_succ_cons]
theorem mcs_take2 (l : List (Nat × Nat)) (k : Nat) : mcs (l.take k) = (mcs l).take (k * 2) := by
  induction k generalizing l with
  | zero => simp [mcs]
  | succ k ih =>
    cases l with
    | nil => simp [mcs]
    | cons a l =>
      rw [List.take_succ_cons]
      show _ :: _ :: mcs (l.take k) = (_ :: _ :: mcs l).take _
      rw [ih l, show (k + 1) * 2 = k * 2 + 1 + 1 by omega, List.take_succ_cons, List.take_succ_cons]
/-- a piece of mail as it lies in memory -/
theorem sl_piece {w : World} {b off c n : Nat} {l : List (Nat × Nat)} (h : Sl w 2 (.slice (some ⟨b, off, none⟩) n c) n (mcs l)) (k tt c' off' : Nat) (hk : k ≤ tt) (ht : tt ≤ n) (hc : tt - k ≤ c') (hc' : c' ≤ c) (ho : off' = off + k * 2 ∨ tt = k) :
    Sl w 2 (.slice (some ⟨b, off', none⟩) (tt - k) c') (tt - k) (mcs ((l.drop k).take (tt - k))) := by
  obtain ⟨hn, hnc, hc63⟩ := h.mlen
  obtain ⟨p', c2, hp, h1, h2, h3, h4, h5⟩ := h
  cases hp
  have hlen : ((l.drop k).take (tt - k)).length = tt - k := by rw [List.length_take, List.length_drop]; omega
  refine ⟨_, _, rfl, hc, by omega, by rw [mcs_len, hlen], (fun h => by cases h), ?_⟩
  by_cases he : tt = k
  · left
    rw [he, Nat.sub_self, List.take_zero]; rfl
  · have ho' : off' = off + k * 2 := by rcases ho with ho | ho; exact ho; exact absurd ho he
    subst ho'
    rcases h5 with h5 | ⟨b', off', hb, h5⟩
    · have := congrArg List.length h5
      rw [mcs_len] at this; simp at this; omega
    · cases hb
      refine .inr ⟨_, _, rfl, fun j u hj => ?_⟩
      rw [mcs_take2, mcs_drop2] at hj
      rw [List.getElem?_take] at hj
      split at hj
      · rw [List.getElem?_drop] at hj
        have := h5 _ u hj
        rw [Nat.add_assoc]; exact this
      · cases hj
theorem isI_at {w : World} {p : Option Addr} {c n : Nat} {l : List Int} (h : IsI w (.slice p n c) l) {i : Nat} (hi : i < l.length) : ∃ b off, p = some ⟨b, off, none⟩ ∧ w.cell? ⟨b, off + i, none⟩ = some (.int .i64 l[i]) :=
  by
  obtain ⟨rfl, -, -⟩ := h.lens
  exact h.1.get (xs := its l) (by unfold its; rw [List.getElem?_map, List.getElem?_eq_getElem hi]; rfl)
end Go.Proofs.Ytcaolnpkpialdaa
