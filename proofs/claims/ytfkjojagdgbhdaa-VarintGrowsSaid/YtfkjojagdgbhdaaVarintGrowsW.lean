/- The walk of the law VarintGrows. -/
import Derived.Test.YtfkjojagdgbhdaaPut
namespace Go.Proofs.Ytfkjojagdgbhdaa
open Go.RowKit
set_option maxHeartbeats 400000 in
set_option maxRecDepth 100000 in
theorem varintGrows_walk (w : World) (a : Int) (a0 : 0 ≤ a) (a1 : a ≤ 18446744073709551615) (b : Int) (b0 : 0 ≤ b) (b1 : b ≤ 18446744073709551615) :
    Calls Try.prog 4 #[.int .u64 a, .int .u64 b] w fun e w' => e = .returned (.bool true) ∧ Below w.heap.size w w' := by
  obtain ⟨x, rfl⟩ := Int.eq_ofNat_of_zero_le a0
  obtain ⟨y, rfl⟩ := Int.eq_ofNat_of_zero_le b0
  have hx : x < U64 := by unfold U64; omega
  have hy : y < U64 := by unfold U64; omega
  clear a0 a1 b0 b1
  have hpx := put_pos x
  have hpy := put_pos y
  have hlx : (put x).length ≤ 10 := put_len10 hx
  have hly : (put y).length ≤ 10 := put_len10 hy
  by_cases hxy : x < y
  · have hm := put_mono x x y (Nat.le_refl _) (by omega)
    go_enter Try.func4, Try.ntmps4
    go_wp2_with fail
    refine (put_any x _ hx).mono ?_; rintro e w1 ⟨p1, c1, rfl, ho1, hb1⟩
    go_wp2_with fail
    refine (put_any y _ hy).mono ?_; rintro e w2 ⟨p2, c2, rfl, ho2, hb2⟩
    go_wp2_with fail
    go_ret
    exact ⟨rfl, hb1.trans (hb2.mono hb1.size)⟩
  · have hm := put_mono y y x (Nat.le_refl _) (by omega)
    by_cases hyx : y < x
    · go_enter Try.func4, Try.ntmps4
      go_wp2_with fail
      refine (put_any y _ hy).mono ?_; rintro e w1 ⟨p1, c1, rfl, ho1, hb1⟩
      go_wp2_with fail
      refine (put_any x _ hx).mono ?_; rintro e w2 ⟨p2, c2, rfl, ho2, hb2⟩
      go_wp2_with fail
      go_ret
      exact ⟨rfl, hb1.trans (hb2.mono hb1.size)⟩
    · obtain rfl : x = y := by omega
      go_enter Try.func4, Try.ntmps4
      go_wp2_with fail
      refine (put_any x _ hx).mono ?_; rintro e w1 ⟨p1, c1, rfl, ho1, hb1⟩
      go_wp2_with fail
      refine (put_any x _ hx).mono ?_; rintro e w2 ⟨p2, c2, rfl, ho2, hb2⟩
      go_wp2_with fail
      go_ret
      exact ⟨rfl, hb1.trans (hb2.mono hb1.size)⟩
end Go.Proofs.Ytfkjojagdgbhdaa
