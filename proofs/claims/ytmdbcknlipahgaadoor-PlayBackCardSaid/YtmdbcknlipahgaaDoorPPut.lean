/- Plain facts: a whole number as few bytes (seven bits a byte, the last one below 128), and back. No program in sight. -/
import Derived.WalkKit
namespace Go.Proofs.YtmdbcknlipahgaaDoor
open Go.RowKit

/-- one more than the greatest uint64: a name, so that no walk meets the numeral -/
def U64 : Nat := 18446744073709551616
/-- bytes as cells -/
def bys (l : List Nat) : List Value := l.map fun x : Nat => Value.int .u8 (x : Int)
theorem bys_len (l : List Nat) : (bys l).length = l.length := by simp [bys]
theorem bys_snoc (l : List Nat) (x : Nat) : bys (l ++ [x]) = bys l ++ [Value.int .u8 (x : Int)] := by simp [bys]
theorem bys_append (l r : List Nat) : bys (l ++ r) = bys l ++ bys r := by simp [bys]

/-- bytes: each below 256 -/
def AllB (l : List Nat) : Prop := ∀ x ∈ l, x < 256

def putF : Nat → Nat → List Nat
  | 0, n => [n]
  | f + 1, n => if 128 ≤ n then (n % 128 + 128) :: putF f (n / 128) else [n]
/-- the bytes of a number -/
def put (n : Nat) : List Nat := putF n n

theorem putF_fuel : ∀ (f n g : Nat), n ≤ f → n ≤ g → putF f n = putF g n := by
  intro f
  induction f with
  | zero =>
    intro n g h1 h2
    obtain rfl : n = 0 := by omega
    cases g with
    | zero => rfl
    | succ g => simp [putF]
  | succ f ih =>
    intro n g h1 h2
    cases g with
    | zero =>
      obtain rfl : n = 0 := by omega
      simp [putF]
    | succ g =>
      simp only [putF]
      by_cases h : 128 ≤ n
      · rw [if_pos h, if_pos h, ih (n / 128) g (by omega) (by omega)]
      · rw [if_neg h, if_neg h]

theorem put_lt {n : Nat} (h : n < 128) : put n = [n] := by
  unfold put
  cases n with
  | zero => rfl
  | succ k => simp only [putF]; rw [if_neg (by omega)]
theorem put_ge {n : Nat} (h : 128 ≤ n) : put n = (n % 128 + 128) :: put (n / 128) := by
  unfold put
  obtain ⟨k, rfl⟩ : ∃ k, n = k + 1 := ⟨n - 1, by omega⟩
  rw [putF, if_pos h, putF_fuel k ((k + 1) / 128) ((k + 1) / 128) (by omega) (Nat.le_refl _)]

theorem put_pos (n : Nat) : 1 ≤ (put n).length := by
  by_cases h : 128 ≤ n
  · rw [put_ge h]; simp
  · rw [put_lt (by omega)]; simp
theorem put_len_le : ∀ (k n : Nat), n < 128 ^ (k + 1) → (put n).length ≤ k + 1 := by
  intro k
  induction k with
  | zero => intro n h; rw [put_lt (by omega)]; simp
  | succ k ih =>
    intro n h
    by_cases hn : 128 ≤ n
    · rw [put_ge hn, List.length_cons]
      have := ih (n / 128) (by rw [Nat.div_lt_iff_lt_mul (by omega), ← Nat.pow_succ]; exact h)
      omega
    · rw [put_lt (by omega)]; simp
theorem put_len10 {n : Nat} (h : n < U64) : (put n).length ≤ 10 := put_len_le 9 n (by unfold U64 at h; omega)
theorem put_mono : ∀ (k a b : Nat), a ≤ k → a ≤ b → (put a).length ≤ (put b).length := by
  intro k
  induction k with
  | zero => intro a b h _; obtain rfl : a = 0 := by omega
            rw [put_lt (by omega)]; exact put_pos b
  | succ k ih =>
    intro a b h hab
    by_cases ha : 128 ≤ a
    · rw [put_ge ha, put_ge (by omega : 128 ≤ b), List.length_cons, List.length_cons]
      have := ih (a / 128) (b / 128) (by omega) (by omega)
      omega
    · rw [put_lt (by omega)]; exact put_pos b
theorem put_bytes : ∀ (k n : Nat), n ≤ k → AllB (put n) := by
  intro k
  induction k with
  | zero => intro n h; obtain rfl : n = 0 := by omega
            rw [put_lt (by omega)]; intro x hx; simp at hx; omega
  | succ k ih =>
    intro n h
    by_cases hn : 128 ≤ n
    · rw [put_ge hn]
      intro x hx
      rcases List.mem_cons.1 hx with rfl | hx
      · omega
      · exact ih (n / 128) (by omega) x hx
    · rw [put_lt (by omega)]; intro x hx; simp at hx; omega

theorem or128 (n : Nat) : bits .or .u8 ((n : Int) % 256) 128 = ((n % 128 + 128 : Nat) : Int) := by
  rw [u8_or _ _ (by omega) (by omega) (by omega) (by omega)]
  have e : ((n : Int) % 256).toNat = n % 256 := by omega
  rw [e]
  have h : (n % 256 ||| (128 : Int).toNat) = n % 128 + 128 := by
    have e2 : (128 : Int).toNat = 2 ^ 7 := rfl
    rw [e2]
    have : n % 256 = n % 256 / 128 * 128 + n % 128 := by omega
    by_cases hb : n % 256 < 128
    · rw [show n % 256 = n % 128 by omega, Nat.or_comm]
      rw [nat_join 7 (2 ^ 7) (n % 128) (by decide) (by omega)]
      omega
    · have h3 : n % 256 = 2 ^ 7 + n % 128 := by omega
      rw [h3, ← nat_join 7 (2 ^ 7) (n % 128) (by decide) (by omega), Nat.or_comm, ← Nat.or_assoc, Nat.or_self]
      rw [nat_join 7 (2 ^ 7) (n % 128) (by decide) (by omega)]
      omega
  rw [h]
end Go.Proofs.YtmdbcknlipahgaaDoor
