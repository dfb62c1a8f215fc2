/- A heap in a list: plain laws. No program walked. -/
import Derived.Test.YtiaflhlfodcbjaaRows
namespace Go.Proofs.Ytiaflhlfodcbjaa
section
variable {α : Type}
def swp (l : List α) (i j : Nat) (a b : α) : List α := (l.set i b).set j a
theorem swp_len (l : List α) (i j : Nat) (a b : α) : (swp l i j a b).length = l.length := by simp [swp]
theorem swp_get {l : List α} {i j : Nat} {a b : α} (hi : l[i]? = some a) (hj : l[j]? = some b) (k : Nat) : (swp l i j a b)[k]? = if k = i then some b else if k = j then some a else l[k]? := by
  have h1 := (List.getElem?_eq_some_iff.1 hi).1
  have h2 := (List.getElem?_eq_some_iff.1 hj).1
  unfold swp
  rw [List.getElem?_set, List.getElem?_set]
  by_cases hkj : j = k
  · subst hkj
    by_cases hij : j = i
    · subst hij
      rw [hi] at hj
      cases hj
      simp [h1]
    · simp [hij, h2]
  · by_cases hki : i = k
    · subst hki
      simp [hkj, h1]
    · have e1 : ¬ k = i := fun e => hki e.symm
      have e2 : ¬ k = j := fun e => hkj e.symm
      simp [hkj, hki, e1, e2]
theorem swp_perm {l : List α} {i j : Nat} {a b : α} (hi : l[i]? = some a) (hj : l[j]? = some b) : (swp l i j a b).Perm l := by
  obtain ⟨h1, rfl⟩ := List.getElem?_eq_some_iff.1 hi
  obtain ⟨h2, rfl⟩ := List.getElem?_eq_some_iff.1 hj
  have h := Array.swap_perm (xs := l.toArray) (i := i) (j := j) (by simpa using h1) (by simpa using h2)
  have e : (l.toArray.swap i j (by simpa using h1) (by simpa using h2)).toList = swp l i j l[i] l[j] := by
    simp [Array.swap, swp]
  have := Array.Perm.toList h
  rw [e] at this
  simpa using this
variable {le : α → α → Prop}
/-- below n, all but what hangs on j -/
def UpI (le : α → α → Prop) (l : List α) (j : Nat) : Prop :=
  (∀ i x y, 0 < i → i ≠ j → l[(i - 1) / 2]? = some x → l[i]? = some y → le x y) ∧
  (∀ i x y, 0 < i → (i - 1) / 2 = j → 0 < j → l[(j - 1) / 2]? = some x → l[i]? = some y → le x y)
def Hp (le : α → α → Prop) (l : List α) : Prop := ∀ i x y, 0 < i → l[(i - 1) / 2]? = some x → l[i]? = some y → le x y
theorem Hp.up {l : List α} (h : Hp le l) (y : α) : UpI le (l ++ [y]) l.length := by
  refine ⟨fun i x z h0 hi hx hz => ?_, fun i x z h0 hi hj hx hz => ?_⟩
  · have hlt : i < l.length := by
      have := (List.getElem?_eq_some_iff.1 hz).1
      rw [List.length_append] at this; simp at this; omega
    rw [List.getElem?_append_left hlt] at hz
    rw [List.getElem?_append_left (by omega)] at hx
    exact h i x z h0 hx hz
  · have := (List.getElem?_eq_some_iff.1 hz).1
    rw [List.length_append] at this; simp at this; omega
theorem UpI.step {l : List α} {j : Nat} (h : UpI le l j) (htr : ∀ a b c, le a b → le b c → le a c) (hj : 0 < j) {a b : α} (hi : l[(j - 1) / 2]? = some a) (hb : l[j]? = some b) (hlt : le b a) : UpI le (swp l ((j - 1) / 2) j a b) ((j - 1) / 2) := by
  have hne : (j - 1) / 2 < j := by omega
  obtain ⟨i, hie⟩ : ∃ i, (j - 1) / 2 = i := ⟨_, rfl⟩
  rw [hie] at hi hne ⊢
  refine ⟨fun k x y h0 hk hx hy => ?_, fun k x y h0 hk hi0 hx hy => ?_⟩
  · rw [swp_get hi hb] at hx hy
    rw [if_neg hk] at hy
    by_cases hkj : k = j
    · subst hkj
      rw [if_pos rfl] at hy
      rw [hie, if_pos rfl] at hx
      cases hx; cases hy
      exact hlt
    · rw [if_neg hkj] at hy
      by_cases hp : (k - 1) / 2 = i
      · rw [if_pos hp] at hx
        cases hx
        exact htr _ _ _ hlt (h.1 k _ _ h0 hkj (by rw [hp]; exact hi) hy)
      · rw [if_neg hp] at hx
        by_cases hpj : (k - 1) / 2 = j
        · rw [if_pos hpj] at hx
          cases hx
          exact h.2 k _ _ h0 hpj hj (by rw [hie]; exact hi) hy
        · rw [if_neg hpj] at hx
          exact h.1 k _ _ h0 hkj hx hy
  · rw [swp_get hi hb] at hx hy
    have hne2 : (i - 1) / 2 < i := by omega
    rw [if_neg (by omega), if_neg (by omega)] at hx
    have hxi : le x a := h.1 i _ _ hi0 (by omega) hx hi
    rw [if_neg (by omega)] at hy
    by_cases hkj : k = j
    · rw [if_pos hkj] at hy
      cases hy
      exact hxi
    · rw [if_neg hkj] at hy
      exact htr _ _ _ hxi (h.1 k _ _ h0 hkj (by rw [hk]; exact hi) hy)
theorem UpI.done0 {l : List α} (h : UpI le l 0) : Hp le l := fun i x y h0 hx hy => h.1 i x y h0 (by omega) hx hy
theorem UpI.done {l : List α} {j : Nat} (h : UpI le l j) {a b : α} (hi : l[(j - 1) / 2]? = some a) (hb : l[j]? = some b) (hle : le a b) : Hp le l := fun i x y h0 hx hy => by
  by_cases hij : i = j
  · subst hij
    rw [hi] at hx; rw [hb] at hy
    cases hx; cases hy
    exact hle
  · exact h.1 i x y h0 hij hx hy
/-- the first n, all but what hangs under i -/
def DnI (le : α → α → Prop) (l : List α) (n i : Nat) : Prop :=
  (∀ k x y, 0 < k → k < n → (k - 1) / 2 ≠ i → l[(k - 1) / 2]? = some x → l[k]? = some y → le x y) ∧
  (∀ k x y, 0 < k → k < n → (k - 1) / 2 = i → 0 < i → l[(i - 1) / 2]? = some x → l[k]? = some y → le x y)
theorem Hp.down {l : List α} (h : Hp le l) {n : Nat} {a b : α} (ha : l[0]? = some a) (hb : l[n]? = some b) : DnI le (swp l 0 n a b) n 0 := by
  refine ⟨fun k x y h0 hk hp hx hy => ?_, fun k x y h0 hk hp hi => by omega⟩
  rw [swp_get ha hb] at hx hy
  rw [if_neg hp, if_neg (by omega)] at hx
  rw [if_neg (by omega), if_neg (by omega)] at hy
  exact h k x y h0 hx hy
theorem DnI.step {l : List α} {n i j : Nat} (h : DnI le l n i) (hj0 : 0 < j) (hjn : j < n) (hji : (j - 1) / 2 = i) {a b : α} (ha : l[i]? = some a) (hb : l[j]? = some b) (hlt : le b a) (hmin : ∀ k y, 0 < k → k < n → (k - 1) / 2 = i → l[k]? = some y → le b y) : DnI le (swp l i j a b) n j := by
  refine ⟨fun k x y h0 hk hp hx hy => ?_, fun k x y h0 hk hp hi hx hy => ?_⟩
  · rw [swp_get ha hb] at hx hy
    by_cases hpi : (k - 1) / 2 = i
    · rw [if_pos hpi] at hx
      cases hx
      rw [if_neg (by omega)] at hy
      by_cases hkj : k = j
      · rw [if_pos hkj] at hy
        cases hy; exact hlt
      · rw [if_neg hkj] at hy
        exact hmin k y h0 hk hpi hy
    · rw [if_neg hpi, if_neg hp] at hx
      by_cases hki : k = i
      · rw [if_pos hki] at hy
        cases hy
        subst hki
        exact h.2 j _ _ hj0 hjn hji h0 hx hb
      · rw [if_neg hki, if_neg (by omega)] at hy
        exact h.1 k _ _ h0 hk hpi hx hy
  · rw [swp_get ha hb] at hx hy
    rw [hji, if_pos rfl] at hx
    cases hx
    rw [if_neg (by omega), if_neg (by omega)] at hy
    exact h.1 k _ _ h0 hk (by omega) (by rw [hp]; exact hb) hy
theorem DnI.done {l : List α} {n i : Nat} (h : DnI le l n i) {a : α} (ha : l[i]? = some a) (hmin : ∀ k y, 0 < k → k < n → (k - 1) / 2 = i → l[k]? = some y → le a y) : Hp le (l.take n) := fun k x y h0 hx hy => by
  have hk : k < n := by
    have := (List.getElem?_eq_some_iff.1 hy).1
    rw [List.length_take] at this; omega
  rw [List.getElem?_take_of_lt hk] at hy
  rw [List.getElem?_take_of_lt (by omega)] at hx
  by_cases hp : (k - 1) / 2 = i
  · rw [hp, ha] at hx
    cases hx
    exact hmin k y h0 hk hp hy
  · exact h.1 k x y h0 hk hp hx hy
theorem Hp.least {l : List α} (h : Hp le l) (hrf : ∀ a, le a a) (htr : ∀ a b c, le a b → le b c → le a c) {a : α} (ha : l[0]? = some a) : ∀ (k : Nat) (y : α), l[k]? = some y → le a y := by
  intro k
  induction k using Nat.strongRecOn with
  | ind k ih =>
    intro y hy
    by_cases h0 : k = 0
    · subst h0; rw [ha] at hy; cases hy; exact hrf _
    · have hlt := (List.getElem?_eq_some_iff.1 hy).1
      obtain ⟨x, hx⟩ : ∃ x, l[(k - 1) / 2]? = some x := ⟨_, List.getElem?_eq_getElem (by omega)⟩
      exact htr _ _ _ (ih ((k - 1) / 2) (by omega) x hx) (h k x y (by omega) hx hy)
end
end Go.Proofs.Ytiaflhlfodcbjaa
