/- Plain facts on bits of whole numbers (no program in sight): zig, zag, masks, joins. No condition but the bounds that each lemma names. -/
import Derived.WalkKit
namespace Go.Proofs.Ytfkjojagdgbhdaa
open Go.RowKit

/-- a number with a sign as one without -/
def zigI (n : Int) : Int := if n < 0 then -2 * n - 1 else 2 * n
/-- and back -/
def zagI (u : Int) : Int := if u % 2 = 0 then u / 2 else - (u / 2) - 1

theorem zig_bd (n : Int) (h0 : -9223372036854775808 ≤ n) (h1 : n ≤ 9223372036854775807) : 0 ≤ zigI n ∧ zigI n ≤ 18446744073709551615 := by
  unfold zigI; split <;> omega
theorem zag_bd (u : Int) (h0 : 0 ≤ u) (h1 : u ≤ 18446744073709551615) : -9223372036854775808 ≤ zagI u ∧ zagI u ≤ 9223372036854775807 := by
  unfold zagI; split <;> omega
theorem zag_zig (n : Int) : zagI (zigI n) = n := by
  unfold zagI zigI; split <;> split <;> omega
theorem zig_zag (u : Int) (h0 : 0 ≤ u) : zigI (zagI u) = u := by
  unfold zagI zigI; split <;> split <;> omega
theorem zig_odd (n : Int) : zigI n % 2 = 1 ↔ n < 0 := by
  unfold zigI; split <;> omega

theorem xor_ones (x : Nat) (h : x < 18446744073709551616) : x ^^^ 18446744073709551615 = 18446744073709551615 - x := by
  have e : (~~~ (BitVec.ofNat 64 x)).toNat = (BitVec.allOnes 64 ^^^ BitVec.ofNat 64 x).toNat := by rw [BitVec.not_def]
  rw [BitVec.toNat_not, BitVec.toNat_xor, BitVec.toNat_allOnes, BitVec.toNat_ofNat, Nat.mod_eq_of_lt (by omega : x < 2 ^ 64)] at e
  rw [Nat.xor_comm]
  have e2 : (2 ^ 64 - 1 - x) = 18446744073709551615 - x := by omega
  have e3 : ((2 : Nat) ^ 64 - 1) = 18446744073709551615 := by decide
  rw [e2, e3] at e
  exact e.symm

theorem zig_bits (n : Int) (h0 : -9223372036854775808 ≤ n) (h1 : n ≤ 9223372036854775807) :
    bits .xor .u64 (IntKind.u64.wrap (IntKind.u64.wrap n * 2)) (IntKind.u64.wrap (n / 9223372036854775808)) = zigI n := by
  rw [IntKind.wrap_u64, IntKind.wrap_u64, IntKind.wrap_u64, u64_xor _ _ (by omega) (by omega) (by omega) (by omega)]
  unfold zigI
  by_cases hn : n < 0
  · rw [if_pos hn]
    have e : (n / 9223372036854775808 % 18446744073709551616).toNat = 18446744073709551615 := by omega
    rw [e, xor_ones _ (by omega)]
    omega
  · rw [if_neg hn]
    have e : (n / 9223372036854775808 % 18446744073709551616).toNat = 0 := by omega
    rw [e, Nat.xor_zero]
    omega

theorem xor_i64_zero (x : Int) (h0 : -9223372036854775808 ≤ x) (h1 : x ≤ 9223372036854775807) : bits .xor .i64 x 0 = x := by
  show IntKind.i64.wrap ((BitVec.ofInt 64 x ^^^ BitVec.ofInt 64 0).toNat : Int) = x
  rw [BitVec.ofInt_ofNat, BitVec.xor_zero, BitVec.toNat_ofInt, IntKind.wrap_i64]
  omega
theorem xor_i64_ones (x : Int) (h0 : -9223372036854775808 ≤ x) (h1 : x ≤ 9223372036854775807) : bits .xor .i64 x (-1) = -x - 1 := by
  show IntKind.i64.wrap ((BitVec.ofInt 64 x ^^^ BitVec.ofInt 64 (-1)).toNat : Int) = -x - 1
  have e : BitVec.ofInt 64 (-1) = BitVec.allOnes 64 := by decide
  rw [e, BitVec.xor_comm, ← BitVec.not_def, BitVec.toNat_not, BitVec.toNat_ofInt, IntKind.wrap_i64]
  omega

theorem zag_bits (n : Int) (h0 : 0 ≤ n) (h1 : n ≤ 18446744073709551615) :
    bits .xor .i64 (n / 2) (wrap64 (-wrap64 (bits .and .u64 n 1))) = zagI n := by
  rw [u64_and _ _ (by omega) (by omega) (by omega) (by omega)]
  have e : (n.toNat &&& (1 : Int).toNat) = n.toNat % 2 := Nat.and_two_pow_sub_one_eq_mod _ 1
  rw [e]
  unfold zagI
  by_cases hn : n % 2 = 0
  · rw [if_pos hn]
    have e2 : wrap64 (-wrap64 ((n.toNat % 2 : Nat) : Int)) = 0 := by unfold wrap64; omega
    rw [e2, xor_i64_zero _ (by omega) (by omega)]
  · rw [if_neg hn]
    have e2 : wrap64 (-wrap64 ((n.toNat % 2 : Nat) : Int)) = -1 := by unfold wrap64; omega
    rw [e2, xor_i64_ones _ (by omega) (by omega)]
end Go.Proofs.Ytfkjojagdgbhdaa
