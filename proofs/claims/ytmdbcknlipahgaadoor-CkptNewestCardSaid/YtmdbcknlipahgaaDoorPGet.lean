/- Plain facts: a number got back from bytes; what is put is got, what is got was put so. -/
import Derived.Test.YtmdbcknlipahgaaDoorPPut
namespace Go.Proofs.YtmdbcknlipahgaaDoor
open Go.RowKit
/-- the number that bytes begin with, how many bytes it has, what is wrong; i bytes went ahead, which say acc -/
def getF : Nat → Nat → List Nat → Nat × Nat × Nat
  | _, _, [] => (0, 0, 4)
  | i, acc, c :: r =>
    if i = 9 ∧ 1 < c then (0, 0, 6)
    else if c < 128 then (if c = 0 ∧ 0 < i then (0, 0, 3) else (acc + c % 128 * 128 ^ i, i + 1, 0))
    else getF (i + 1) (acc + c % 128 * 128 ^ i) r
def getL (l : List Nat) : Nat × Nat × Nat := getF 0 0 l

theorem getF_nil (i acc : Nat) : getF i acc [] = (0, 0, 4) := by rw [getF]
theorem getF_over {i acc c : Nat} {r : List Nat} (h : i = 9 ∧ 1 < c) : getF i acc (c :: r) = (0, 0, 6) := by rw [getF, if_pos h]
theorem getF_form {i acc c : Nat} {r : List Nat} (h : ¬ (i = 9 ∧ 1 < c)) (h1 : c < 128) (h2 : c = 0 ∧ 0 < i) : getF i acc (c :: r) = (0, 0, 3) := by rw [getF, if_neg h, if_pos h1, if_pos h2]
theorem getF_end {i acc c : Nat} {r : List Nat} (h : ¬ (i = 9 ∧ 1 < c)) (h1 : c < 128) (h2 : ¬ (c = 0 ∧ 0 < i)) : getF i acc (c :: r) = (acc + c % 128 * 128 ^ i, i + 1, 0) := by rw [getF, if_neg h, if_pos h1, if_neg h2]
theorem getF_on {i acc c : Nat} {r : List Nat} (h : ¬ (i = 9 ∧ 1 < c)) (h1 : ¬ c < 128) : getF i acc (c :: r) = getF (i + 1) (acc + c % 128 * 128 ^ i) r := by rw [getF, if_neg h, if_neg h1]

/-- what is put is got, whatever stands behind it -/
theorem getF_put : ∀ (k n i acc : Nat) (t : List Nat), n ≤ k → (0 < i → 0 < n) → i + (put n).length ≤ 10 → (i + (put n).length = 10 → n * 128 ^ i < U64) → getF i acc (put n ++ t) = (acc + n * 128 ^ i, i + (put n).length, 0) := by
  intro k
  induction k with
  | zero =>
    intro n i acc t h1 h2 h3 h4
    obtain rfl : n = 0 := by omega
    rw [put_lt (by omega)]
    show getF i acc (0 :: t) = _
    rw [getF_end (by omega) (by omega) (by omega)]
    simp
  | succ k ih =>
    intro n i acc t h1 h2 h3 h4
    by_cases hn : 128 ≤ n
    · rw [put_ge hn] at h3 h4 ⊢
      rw [List.length_cons] at h3 h4 ⊢
      have hp := put_pos (n / 128)
      rw [List.cons_append, getF_on (by omega) (by omega), ih (n / 128) (i + 1) _ t (by omega) (by omega) (by omega)]
      · refine Prod.ext ?_ (Prod.ext ?_ rfl)
        · show acc + (n % 128 + 128) % 128 * 128 ^ i + n / 128 * 128 ^ (i + 1) = acc + n * 128 ^ i
          have e : (n % 128 + 128) % 128 = n % 128 := by omega
          have e2 : n % 128 + n / 128 * 128 = n := by omega
          rw [e, Nat.pow_succ, Nat.mul_comm (128 ^ i) 128, ← Nat.mul_assoc, Nat.add_assoc, ← Nat.add_mul, e2]
        · show i + 1 + _ = i + (_ + 1)
          omega
      · intro h
        have h5 := h4 (by omega)
        rw [Nat.pow_succ, Nat.mul_comm (128 ^ i) 128, ← Nat.mul_assoc]
        exact Nat.lt_of_le_of_lt (Nat.mul_le_mul_right _ (by omega)) h5
    · rw [put_lt (by omega)] at h3 h4 ⊢
      show getF i acc (n :: t) = _
      by_cases h9 : i = 9
      · subst h9
        have h5 := h4 rfl
        have h6 : n ≤ 1 := by
          unfold U64 at h5
          have : (128 : Nat) ^ 9 = 9223372036854775808 := by decide
          rw [this] at h5
          omega
        rw [getF_end (by omega) (by omega) (by omega), Nat.mod_eq_of_lt (by omega)]
        rfl
      · rw [getF_end (by omega) (by omega) (by omega), Nat.mod_eq_of_lt (by omega)]
        rfl
theorem getL_put {n : Nat} (hn : n < U64) (t : List Nat) : getL (put n ++ t) = (n, (put n).length, 0) := by
  have h := getF_put n n 0 0 t (Nat.le_refl _) (by omega) (by have := put_len10 hn; omega) (by intro _; simpa using hn)
  simpa [getL] using h

/-- what is got: less than 2^64, at most ten bytes -/
theorem getF_bd : ∀ (l : List Nat) (i acc : Nat), AllB l → i ≤ 9 → acc < 128 ^ i → (getF i acc l).2.2 = 0 → (getF i acc l).1 < U64 ∧ i < (getF i acc l).2.1 ∧ (getF i acc l).2.1 ≤ i + l.length ∧ (getF i acc l).2.1 ≤ 10 := by
  intro l
  induction l with
  | nil => intro i acc _ _ _ h; rw [getF_nil] at h; cases h
  | cons c r ih =>
    intro i acc hb hi hacc h
    have hc : c < 256 := hb c (by simp)
    have hP : 0 < 128 ^ i := Nat.pow_pos (by omega)
    by_cases h1 : i = 9 ∧ 1 < c
    · rw [getF_over h1] at h; cases h
    by_cases h2 : c < 128
    · by_cases h3 : c = 0 ∧ 0 < i
      · rw [getF_form h1 h2 h3] at h; cases h
      · rw [getF_end h1 h2 h3]
        refine ⟨?_, by show i < i + 1; omega, by show i + 1 ≤ _; simp, by show i + 1 ≤ 10; omega⟩
        show acc + c % 128 * 128 ^ i < U64
        rw [Nat.mod_eq_of_lt h2]
        by_cases h9 : i = 9
        · have hc1 : c ≤ 1 := by omega
          have h4 : c * 128 ^ i ≤ 1 * 128 ^ i := Nat.mul_le_mul_right _ hc1
          have e : (128 : Nat) ^ 9 = 9223372036854775808 := by decide
          subst h9
          unfold U64
          rw [e] at *
          omega
        · have h4 : c * 128 ^ i ≤ 127 * 128 ^ i := Nat.mul_le_mul_right _ (by omega)
          have h5 : 128 ^ (i + 1) ≤ 128 ^ 9 := Nat.pow_le_pow_right (by omega) (by omega)
          have e : (128 : Nat) ^ 9 = 9223372036854775808 := by decide
          rw [Nat.pow_succ] at h5
          unfold U64
          omega
    · have h9 : i ≠ 9 := by omega
      rw [getF_on h1 h2] at h ⊢
      have hacc' : acc + c % 128 * 128 ^ i < 128 ^ (i + 1) := by
        have h4 : c % 128 * 128 ^ i ≤ 127 * 128 ^ i := Nat.mul_le_mul_right _ (by omega)
        rw [Nat.pow_succ]
        omega
      have h5 := ih (i + 1) (acc + c % 128 * 128 ^ i) (fun x hx => hb x (by simp [hx])) (by omega) hacc' h
      refine ⟨h5.1, by omega, ?_, h5.2.2.2⟩
      rw [List.length_cons]; omega
theorem getF_bad : ∀ (l : List Nat) (i acc : Nat), (getF i acc l).2.2 ≠ 0 → (getF i acc l).1 = 0 ∧ (getF i acc l).2.1 = 0 := by
  intro l
  induction l with
  | nil => intro i acc _; rw [getF_nil]; exact ⟨rfl, rfl⟩
  | cons c r ih =>
    intro i acc h
    by_cases h1 : i = 9 ∧ 1 < c
    · rw [getF_over h1]; exact ⟨rfl, rfl⟩
    by_cases h2 : c < 128
    · by_cases h3 : c = 0 ∧ 0 < i
      · rw [getF_form h1 h2 h3]; exact ⟨rfl, rfl⟩
      · rw [getF_end h1 h2 h3] at h; exact absurd rfl h
    · rw [getF_on h1 h2] at h ⊢; exact ih _ _ h
theorem getF_err : ∀ (l : List Nat) (i acc : Nat), (getF i acc l).2.2 ≤ 6 := by
  intro l
  induction l with
  | nil => intro i acc; rw [getF_nil]; decide
  | cons c r ih =>
    intro i acc
    by_cases h1 : i = 9 ∧ 1 < c
    · rw [getF_over h1]; exact Nat.le_refl _
    by_cases h2 : c < 128
    · by_cases h3 : c = 0 ∧ 0 < i
      · rw [getF_form h1 h2 h3]; decide
      · rw [getF_end h1 h2 h3]; exact Nat.zero_le _
    · rw [getF_on h1 h2]; exact ih _ _
/-- what is got was put so -/
theorem getF_fixed : ∀ (l : List Nat) (i acc : Nat), AllB l → (getF i acc l).2.2 = 0 →
    ∃ n, (getF i acc l).1 = acc + n * 128 ^ i ∧ (0 < i → 0 < n) ∧ (getF i acc l).2.1 = i + (put n).length ∧ put n = l.take (put n).length := by
  intro l
  induction l with
  | nil => intro i acc _ h; rw [getF_nil] at h; cases h
  | cons c r ih =>
    intro i acc hb h
    have hc : c < 256 := hb c (by simp)
    by_cases h1 : i = 9 ∧ 1 < c
    · rw [getF_over h1] at h; cases h
    by_cases h2 : c < 128
    · by_cases h3 : c = 0 ∧ 0 < i
      · rw [getF_form h1 h2 h3] at h; cases h
      · rw [getF_end h1 h2 h3]
        refine ⟨c, ?_, by omega, ?_, ?_⟩
        · show acc + c % 128 * 128 ^ i = _; rw [Nat.mod_eq_of_lt h2]
        · rw [put_lt h2]; rfl
        · rw [put_lt h2]; rfl
    · rw [getF_on h1 h2] at h ⊢
      obtain ⟨n, e1, e2, e3, e4⟩ := ih (i + 1) _ (fun x hx => hb x (by simp [hx])) h
      have hn : 0 < n := e2 (by omega)
      have hq : (c - 128 + n * 128) / 128 = n := by omega
      have hr : (c - 128 + n * 128) % 128 + 128 = c := by omega
      have hp : put (c - 128 + n * 128) = c :: put n := by rw [put_ge (by omega), hq, hr]
      refine ⟨c - 128 + n * 128, ?_, by omega, ?_, ?_⟩
      · have e : c % 128 + n * 128 = c - 128 + n * 128 := by omega
        rw [e1, Nat.pow_succ, Nat.mul_comm (128 ^ i) 128, ← Nat.mul_assoc, Nat.add_assoc, ← Nat.add_mul, e]
      · rw [e3, hp, List.length_cons]; omega
      · rw [hp, List.length_cons, List.take_succ_cons, ← e4]
theorem getL_fixed {l : List Nat} (hb : AllB l) (h : (getL l).2.2 = 0) : put (getL l).1 = l.take (getL l).2.1 ∧ (getL l).2.1 = (put (getL l).1).length := by
  obtain ⟨n, e1, _, e3, e4⟩ := getF_fixed l 0 0 hb h
  have e5 : (getL l).1 = n := by unfold getL; rw [e1]; omega
  have e6 : (getL l).2.1 = (put n).length := by unfold getL; rw [e3]; omega
  rw [e5, e6]
  exact ⟨e4, rfl⟩

/-- a byte's seven bits, shifted and joined -/
theorem or_shift {i acc c : Nat} (hi : i ≤ 9) (hacc : acc < 128 ^ i) (hc : c < 256) (h9 : i = 9 → c ≤ 1) :
    bits .or .u64 (acc : Int) (((c % 128 * 128 ^ i : Nat)) : Int) = ((acc + c % 128 * 128 ^ i : Nat) : Int) := by
  have hp : (128 : Nat) ^ i = 2 ^ (7 * i) := by rw [Nat.pow_mul]
  have h1 : acc < 18446744073709551616 := by
    have : (128 : Nat) ^ i ≤ 128 ^ 9 := Nat.pow_le_pow_right (by omega) hi
    have e : (128 : Nat) ^ 9 = 9223372036854775808 := by decide
    omega
  have h2 : c % 128 * 128 ^ i < 18446744073709551616 := by
    by_cases h : i = 9
    · have hc1 := h9 h
      subst h
      have e : (128 : Nat) ^ 9 = 9223372036854775808 := by decide
      rw [e]
      omega
    · have h4 : c % 128 * 128 ^ i ≤ 127 * 128 ^ i := Nat.mul_le_mul_right _ (by omega)
      have h5 : 128 ^ (i + 1) ≤ 128 ^ 9 := Nat.pow_le_pow_right (by omega) (by omega)
      have e : (128 : Nat) ^ 9 = 9223372036854775808 := by decide
      rw [Nat.pow_succ] at h5
      omega
  rw [u64_or_nat _ _ h1 h2, Nat.or_comm, nat_join (7 * i) _ acc (by rw [hp]; exact Nat.mul_mod_left _ _) (by rw [← hp]; exact hacc), Nat.add_comm]
theorem or_walk {i acc c : Nat} (hi : i ≤ 9) (hacc : acc < 128 ^ i) (hc : c < 256) (h9 : i = 9 → c ≤ 1) :
    bits .or .u64 (acc : Int) (IntKind.u64.wrap (IntKind.u64.wrap (bits .and .u8 (c : Int) 127) * 2 ^ (7 * i))) = ((acc + c % 128 * 128 ^ i : Nat) : Int) := by
  rw [← or_shift hi hacc hc h9]
  have h2 : c % 128 * 128 ^ i < 18446744073709551616 := by
    by_cases h : i = 9
    · have hc1 := h9 h
      subst h
      have e : (128 : Nat) ^ 9 = 9223372036854775808 := by decide
      rw [e]
      omega
    · have h4 : c % 128 * 128 ^ i ≤ 127 * 128 ^ i := Nat.mul_le_mul_right _ (by omega)
      have h5 : 128 ^ (i + 1) ≤ 128 ^ 9 := Nat.pow_le_pow_right (by omega) (by omega)
      have e : (128 : Nat) ^ 9 = 9223372036854775808 := by decide
      rw [Nat.pow_succ] at h5
      omega
  have e1 : bits .and .u8 (c : Int) 127 = ((c % 128 : Nat) : Int) := by
    have := u8_and_nat c 127 hc (by omega)
    rw [nat_mask7] at this
    exact this
  have e2 : (2 : Int) ^ (7 * i) = ((128 ^ i : Nat) : Int) := by
    rw [Int.pow_mul]; push_cast; rfl
  have e3 : IntKind.u64.wrap ((c % 128 : Nat) : Int) = ((c % 128 : Nat) : Int) := by
    rw [IntKind.wrap_u64]; omega
  have e4 : ((c % 128 : Nat) : Int) * ((128 ^ i : Nat) : Int) = ((c % 128 * 128 ^ i : Nat) : Int) := by push_cast; rfl
  rw [e1, e3, e2, e4]
  congr 1
  rw [IntKind.wrap_u64]
  exact Int.emod_eq_of_lt (by omega) (by omega)
theorem getL_bd {l : List Nat} (hb : AllB l) (h : (getL l).2.2 = 0) : (getL l).1 < U64 ∧ 1 ≤ (getL l).2.1 ∧ (getL l).2.1 ≤ l.length ∧ (getL l).2.1 ≤ 10 := by
  have := getF_bd l 0 0 hb (by omega) (by decide) h
  unfold getL
  omega
end Go.Proofs.YtmdbcknlipahgaaDoor
