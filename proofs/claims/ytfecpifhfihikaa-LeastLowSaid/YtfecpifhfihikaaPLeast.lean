/- The least of each vertex's mail: plain laws. No program walked. -/
import Derived.Test.YtfecpifhfihikaaPSort
namespace Go.Proofs.Ytfecpifhfihikaa
open Go.Sort Go.Proofs
/-- of the first so many, the first of each vertex -/
def cmpT (l : List (Nat × Nat)) : Nat → List (Nat × Nat)
  | 0 => []
  | k + 1 => if k = 0 ∨ (l.getD k (0, 0)).1 ≠ (l.getD (k - 1) (0, 0)).1 then cmpT l k ++ [l.getD k (0, 0)] else cmpT l k
theorem getD_lt {l : List (Nat × Nat)} {k : Nat} (h : k < l.length) : l.getD k (0, 0) = l[k] := by
  rw [List.getD_eq_getElem?_getD, List.getElem?_eq_getElem h]; rfl
theorem cmpT_new {l : List (Nat × Nat)} {k : Nat} (h : k < l.length) (h0 : k = 0 ∨ l[k].1 ≠ (l.getD (k - 1) (0, 0)).1) : cmpT l (k + 1) = cmpT l k ++ [l[k]] := by
  show (if _ then _ else _) = _
  rw [getD_lt h, if_pos h0]
theorem cmpT_old {l : List (Nat × Nat)} {k : Nat} (h : k < l.length) (h0 : 0 < k) (he : l[k].1 = (l.getD (k - 1) (0, 0)).1) : cmpT l (k + 1) = cmpT l k := by
  show (if _ then _ else _) = _
  rw [getD_lt h, if_neg (by rintro (h1 | h1); omega; exact h1 he)]
theorem cmpT_len (l : List (Nat × Nat)) : ∀ k, (cmpT l k).length ≤ k
  | 0 => Nat.le_refl _
  | k + 1 => by
    have := cmpT_len l k
    unfold cmpT
    split
    · simp; omega
    · omega
theorem cmpT_mem {l : List (Nat × Nat)} : ∀ k, k ≤ l.length → ∀ x ∈ cmpT l k, x ∈ l
  | 0, _, x, h => by simp [cmpT] at h
  | k + 1, hk, x, h => by
    unfold cmpT at h
    split at h
    · rcases List.mem_append.1 h with h | h
      · exact cmpT_mem k (by omega) x h
      · rw [List.mem_singleton.1 h, getD_lt (by omega)]
        exact List.getElem_mem _
    · exact cmpT_mem k (by omega) x h
/-- in order: each is above those ahead of it; each one of the first so many has one that stands for it, no greater -/
theorem cmpT_all {l : List (Nat × Nat)} (hs : l.Pairwise fun a b => leO cfM a b = true) : ∀ k, k ≤ l.length →
    (cmpT l k).Pairwise (fun a b => a.1 < b.1) ∧ (∀ j, (h : j < k) → (h' : j < l.length) → ∃ x ∈ cmpT l k, x.1 = l[j].1 ∧ x.2 ≤ l[j].2) ∧ (∀ x ∈ cmpT l k, (hk : 0 < k) → (h' : k - 1 < l.length) → x.1 ≤ l[k - 1].1)
  | 0, _ => ⟨by simp [cmpT], fun j h => by omega, fun x h => by simp [cmpT] at h⟩
  | k + 1, hk => by
    obtain ⟨h1, h2, h3⟩ := cmpT_all hs k (by omega)
    have hkl : k < l.length := by omega
    have hord : ∀ (i j : Nat) (hi : i < l.length) (hj : j < l.length), i < j → l[i].1 < l[j].1 ∨ (l[i].1 = l[j].1 ∧ l[i].2 ≤ l[j].2) := fun i j hi hj hij => (leM_iff _ _).1 (List.pairwise_iff_getElem.1 hs i j hi hj hij)
    by_cases h0 : k = 0
    · subst h0
      have e : cmpT l (0 + 1) = [l[0]] := by rw [cmpT_new hkl (.inl rfl)]; rfl
      rw [e]
      refine ⟨by simp, fun j h h' => ?_, fun x hx _ _ => ?_⟩
      · obtain rfl : j = 0 := by omega
        exact ⟨l[0], by simp, rfl, Nat.le_refl _⟩
      · rw [List.mem_singleton.1 hx]
        exact Nat.le_refl _
    · have hk1 : k - 1 < l.length := by omega
      have hpk := hord (k - 1) k hk1 hkl (by omega)
      by_cases he : l[k].1 = l[k - 1].1
      · rw [cmpT_old hkl (by omega) (by rw [getD_lt hk1]; exact he)]
        refine ⟨h1, fun j h h' => ?_, fun x hx _ _ => ?_⟩
        · by_cases hj : j < k
          · exact h2 j hj h'
          · obtain rfl : j = k := by omega
            obtain ⟨x, hx, ex, lx⟩ := h2 (j - 1) (by omega) hk1
            exact ⟨x, hx, by omega, by omega⟩
        · have := h3 x hx (by omega) hk1
          show x.1 ≤ l[k].1
          omega
      · rw [cmpT_new hkl (.inr (by rw [getD_lt hk1]; exact he))]
        refine ⟨?_, fun j h h' => ?_, fun x hx _ _ => ?_⟩
        · rw [List.pairwise_append]
          refine ⟨h1, by simp, fun x hx y hy => ?_⟩
          rw [List.mem_singleton.1 hy]
          have := h3 x hx (by omega) hk1
          omega
        · by_cases hj : j < k
          · obtain ⟨x, hx, e⟩ := h2 j hj h'
            exact ⟨x, by simp [hx], e⟩
          · obtain rfl : j = k := by omega
            exact ⟨l[j], by simp, rfl, Nat.le_refl _⟩
        · show x.1 ≤ l[k].1
          rcases List.mem_append.1 hx with hx | hx
          · have := h3 x hx (by omega) hk1
            omega
          · rw [List.mem_singleton.1 hx]
            exact Nat.le_refl _
theorem cmpT_pos {l : List (Nat × Nat)} : ∀ k, 0 < k → k ≤ l.length → 0 < (cmpT l k).length
  | k + 1, _, hk => by
    by_cases h0 : k = 0
    · subst h0
      have h : 0 < l.length := by omega
      rw [cmpT_new h (.inl rfl)]; simp
    · have := cmpT_pos (l := l) k (by omega) (by omega)
      unfold cmpT
      split
      · simp
      · exact this
/-- how many there are of a vertex, among the first so many -/
def manyT (f : List (Nat × Nat)) (v : Nat) (k : Nat) : Nat := (f.take k).countP fun x => x.1 == v
theorem manyT_succ {f : List (Nat × Nat)} {v k : Nat} (h : k < f.length) : manyT f v (k + 1) = manyT f v k + if f[k].1 = v then 1 else 0 := by
  unfold manyT
  rw [List.take_succ_eq_append_getElem h, List.countP_append]
  simp [List.countP_cons]
theorem manyT_one {f : List (Nat × Nat)} (hp : f.Pairwise fun a b => a.1 < b.1) {x : Nat × Nat} (hx : x ∈ f) : manyT f x.1 f.length = 1 := by
  unfold manyT
  rw [List.take_length]
  induction f with
  | nil => cases hx
  | cons a f ih =>
    rw [List.pairwise_cons] at hp
    rw [List.countP_cons]
    rcases List.mem_cons.1 hx with rfl | hx
    · have : f.countP (fun y => y.1 == x.1) = 0 := by
        rw [List.countP_eq_zero]
        intro y hy
        have := hp.1 y hy
        simp; omega
      rw [this]; simp
    · have h1 := ih hp.2 hx
      have h2 := hp.1 x hx
      have h3 : (a.1 == x.1) = false := by simp; omega
      rw [h1, h3]; simp
theorem same_of_key {f : List (Nat × Nat)} (hp : f.Pairwise fun a b => a.1 < b.1) {x y : Nat × Nat} (hx : x ∈ f) (hy : y ∈ f) (h : x.1 = y.1) : x = y := by
  obtain ⟨i, hi, rfl⟩ := List.mem_iff_getElem.1 hx
  obtain ⟨j, hj, rfl⟩ := List.mem_iff_getElem.1 hy
  rcases Nat.lt_trichotomy i j with h1 | h1 | h1
  · have := List.pairwise_iff_getElem.1 hp i j hi hj h1; omega
  · subst h1; rfl
  · have := List.pairwise_iff_getElem.1 hp j i hj hi h1; omega
end Go.Proofs.Ytfecpifhfihikaa
