/- The plain law of joining: roots in a list of parents. No program in sight. -/
import Derived.Test.YtiaflhlfodcbjaaPGraph
namespace Go.Proofs.Ytiaflhlfodcbjaa
/-- parents that are no greater -/
def UpOk (N : Nat) (up : List Nat) : Prop := up.length = N ∧ ∀ v, v < N → up.getD v 0 ≤ v
/-- the root of a vertex -/
def rootU (up : List Nat) (v : Nat) : Nat := if up.getD v 0 < v then rootU up (up.getD v 0) else v
termination_by v
theorem rootU_le (up : List Nat) : ∀ v, rootU up v ≤ v := by
  intro v
  induction v using Nat.strongRecOn with
  | ind v ih =>
    rw [rootU]
    split
    · rename_i h; have := ih _ h; omega
    · exact Nat.le_refl _
theorem rootU_fix (up : List Nat) : ∀ v, ¬ up.getD (rootU up v) 0 < rootU up v := by
  intro v
  induction v using Nat.strongRecOn with
  | ind v ih =>
    rw [rootU]
    split
    · rename_i h; exact ih _ h
    · rename_i h; exact h
theorem rootU_of_fix {up : List Nat} {v : Nat} (h : ¬ up.getD v 0 < v) : rootU up v = v := by rw [rootU, if_neg h]
theorem rootU_step {up : List Nat} {v : Nat} (h : up.getD v 0 < v) : rootU up v = rootU up (up.getD v 0) := by rw [rootU, if_pos h]
theorem rootU_idem (up : List Nat) (v : Nat) : rootU up (rootU up v) = rootU up v := rootU_of_fix (rootU_fix up v)
theorem getD_set {l : List Nat} {i j x : Nat} (hi : i < l.length) : (l.set i x).getD j 0 = if j = i then x else l.getD j 0 := by
  rw [List.getD_eq_getElem?_getD, List.getD_eq_getElem?_getD, List.getElem?_set]
  by_cases h : i = j
  · subst h; simp [hi]
  · rw [if_neg h, if_neg (fun e => h e.symm)]
theorem rootU_set {up : List Nat} {M m : Nat} (hM : M < up.length) (hrM : ¬ up.getD M 0 < M) (hrm : ¬ up.getD m 0 < m) (hmM : m ≤ M) (hMM : up.getD M 0 ≤ M) : ∀ x, rootU (up.set M m) x = if rootU up x = M then m else rootU up x := by
  have hm : rootU (up.set M m) m = m := by
    apply rootU_of_fix
    rw [getD_set hM]
    split <;> omega
  intro x
  induction x using Nat.strongRecOn with
  | ind x ih =>
    by_cases hx : x = M
    · subst hx
      rw [rootU_of_fix hrM, if_pos rfl]
      by_cases he : m = x
      · rw [he] at hm ⊢; exact hm
      · rw [rootU_step (by rw [getD_set hM, if_pos rfl]; omega), getD_set hM, if_pos rfl]; exact hm
    · by_cases hs : up.getD x 0 < x
      · rw [rootU_step (v := x) (by rw [getD_set hM, if_neg hx]; exact hs), getD_set hM, if_neg hx, ih _ hs, rootU_step hs]
      · rw [rootU_of_fix (up := up.set M m) (by rw [getD_set hM, if_neg hx]; exact hs), rootU_of_fix hs, if_neg hx]
/-- a path made shorter changes no root -/
theorem rootU_short {up : List Nat} {k : Nat} (hk : k < up.length) (hle : up.getD k 0 ≤ k) : ∀ x, rootU (up.set k (rootU up k)) x = rootU up x := by
  have hr := rootU_le up k
  have hfix : ¬ (up.set k (rootU up k)).getD (rootU up k) 0 < rootU up k := by
    rw [getD_set hk]
    split
    · omega
    · exact rootU_fix up k
  intro x
  induction x using Nat.strongRecOn with
  | ind x ih =>
    by_cases hx : x = k
    · subst hx
      by_cases he : rootU up x < x
      · rw [rootU_step (up := up.set x (rootU up x)) (by rw [getD_set hk, if_pos rfl]; exact he), getD_set hk, if_pos rfl, rootU_of_fix hfix]
      · have e : rootU up x = x := by omega
        rw [rootU_of_fix (up := up.set x (rootU up x)) (by rw [getD_set hk, if_pos rfl]; exact he), e]
    · by_cases hs : up.getD x 0 < x
      · rw [rootU_step (up := up.set k (rootU up k)) (v := x) (by rw [getD_set hk, if_neg hx]; exact hs), getD_set hk, if_neg hx, ih _ hs, rootU_step hs]
      · rw [rootU_of_fix (up := up.set k (rootU up k)) (by rw [getD_set hk, if_neg hx]; exact hs), rootU_of_fix hs]
/-- edges both ways -/
def bothL (l : List Eg) : List Eg := l.flatMap fun e => [e, flipE e]
/-- what is known when the edges 'part' were taken -/
structure Joined (N : Nat) (l part : List Eg) (up : List Nat) : Prop where
  ok : UpOk N up
  same : ∀ e ∈ part, rootU up e.1 = rootU up e.2.1
  rch : ∀ v, v < N → Rch (bothL l) v (rootU up v)
theorem Joined.start (N : Nat) (l : List Eg) : Joined N l [] (List.range N) where
  ok := ⟨by simp, fun v hv => by rw [List.getD_eq_getElem?_getD, List.getElem?_range hv]; exact Nat.le_refl _⟩
  same e he := by simp at he
  rch v hv := by
    rw [rootU_of_fix (by rw [List.getD_eq_getElem?_getD, List.getElem?_range hv]; simp)]
    exact .here
theorem both_mem {l : List Eg} {e : Eg} (h : e ∈ l) : e ∈ bothL l ∧ flipE e ∈ bothL l := by
  unfold bothL
  exact ⟨List.mem_flatMap.2 ⟨e, h, by simp⟩, List.mem_flatMap.2 ⟨e, h, by simp⟩⟩
theorem both_flip {l : List Eg} {e : Eg} (h : e ∈ bothL l) : flipE e ∈ bothL l := by
  unfold bothL at *
  obtain ⟨x, hx, he⟩ := List.mem_flatMap.1 h
  simp at he
  rcases he with rfl | rfl
  · exact List.mem_flatMap.2 ⟨e, hx, by simp⟩
  · exact List.mem_flatMap.2 ⟨x, hx, by simp [flip_flip]⟩
theorem rch_both_sym {l : List Eg} {u v : Nat} (h : Rch (bothL l) u v) : Rch (bothL l) v u := by
  induction h with
  | here => exact .here
  | on _ he ih => exact (Rch.on .here (both_flip he)).trans ih
theorem Joined.step {N : Nat} {l part : List Eg} {up : List Nat} (h : Joined N l part up) {e : Eg} (he : e ∈ l) (h1 : e.1 < N) (h2 : e.2.1 < N) :
    Joined N l (part ++ [e]) (up.set (max (rootU up e.1) (rootU up e.2.1)) (min (rootU up e.1) (rootU up e.2.1))) := by
  obtain ⟨hl, hle⟩ := h.ok
  have ra := rootU_le up e.1
  have rb := rootU_le up e.2.1
  have fa := rootU_fix up e.1
  have fb := rootU_fix up e.2.1
  have pa := h.rch e.1 h1
  have pb := h.rch e.2.1 h2
  generalize hA : rootU up e.1 = A at *
  generalize hB : rootU up e.2.1 = B at *
  have hM : max A B < up.length := by omega
  have hAB : Rch (bothL l) A B := (rch_both_sym pa).trans ((Rch.on .here (both_mem he).1).trans pb)
  have hmM : Rch (bothL l) (max A B) (min A B) := by
    by_cases hc : A ≤ B
    · rw [Nat.max_eq_right hc, Nat.min_eq_left hc]; exact rch_both_sym hAB
    · rw [Nat.max_eq_left (by omega), Nat.min_eq_right (by omega)]; exact hAB
  have fM : ¬ up.getD (max A B) 0 < max A B := by
    by_cases hc : A ≤ B
    · rw [Nat.max_eq_right hc]; exact fb
    · rw [Nat.max_eq_left (by omega)]; exact fa
  have fm : ¬ up.getD (min A B) 0 < min A B := by
    by_cases hc : A ≤ B
    · rw [Nat.min_eq_left hc]; exact fa
    · rw [Nat.min_eq_right (by omega)]; exact fb
  have hR := rootU_set hM fM fm (by omega) (hle _ (by omega))
  refine ⟨⟨by rw [List.length_set]; exact hl, fun v hv => ?_⟩, fun x hx => ?_, fun v hv => ?_⟩
  · rw [getD_set hM]
    split
    · rename_i e; omega
    · exact hle v hv
  · rw [hR, hR]
    rcases List.mem_append.1 hx with hx | hx
    · rw [h.same x hx]
    · obtain rfl := List.mem_singleton.1 hx
      rw [hA, hB]
      split <;> split <;> omega
  · rw [hR]
    split
    · rename_i e; have := h.rch v hv; rw [e] at this; exact this.trans hmM
    · exact h.rch v hv
theorem Joined.short {N : Nat} {l part : List Eg} {up : List Nat} (h : Joined N l part up) {k : Nat} (hk : k < N) : Joined N l part (up.set k (rootU up k)) ∧ ∀ x, rootU (up.set k (rootU up k)) x = rootU up x := by
  obtain ⟨hl, hle⟩ := h.ok
  have hR := rootU_short (up := up) (k := k) (by omega) (hle k hk)
  refine ⟨⟨⟨by rw [List.length_set]; exact hl, fun v hv => ?_⟩, fun e he => by rw [hR, hR]; exact h.same e he, fun v hv => by rw [hR]; exact h.rch v hv⟩, hR⟩
  rw [getD_set (by omega)]
  split
  · rename_i e; have := rootU_le up k; omega
  · exact hle v hv
/-- what Weak answers -/
structure WeakOk (N : Nat) (l : List Eg) (wk : List Nat) : Prop where
  len : wk.length = N
  same : ∀ e ∈ l, wk.getD e.1 0 = wk.getD e.2.1 0
  le : ∀ v, v < N → wk.getD v 0 ≤ v
  own : ∀ v, v < N → wk.getD (wk.getD v 0) 0 = wk.getD v 0
  rch : ∀ v, v < N → Rch (bothL l) v (wk.getD v 0)
theorem Joined.end {N : Nat} {l : List Eg} {up : List Nat} (h : Joined N l l up) (hG : InG N l) (hall : ∀ v, v < N → up.getD v 0 = rootU up v) : WeakOk N l up where
  len := h.ok.1
  same e he := by rw [hall _ (hG e he).1, hall _ (hG e he).2.1]; exact h.same e he
  le := h.ok.2
  own v hv := by
    have := rootU_le up v
    rw [hall v hv, hall _ (by omega), rootU_idem]
  rch v hv := by rw [hall v hv]; exact h.rch v hv
end Go.Proofs.Ytiaflhlfodcbjaa
