/- The walk of the law OwnerEven. -/
import Derived.Test.YtfkjojagdgbhdaaMine
import Derived.Test.YtfkjojagdgbhdaaPick
namespace Go.Proofs.Ytfkjojagdgbhdaa
open Go.RowKit
def sumTo (n W k : Nat) : Nat := ((List.range k).map fun j => cntV j n W).sum
theorem sumTo_succ (n W k : Nat) : sumTo n W (k + 1) = sumTo n W k + cntV k n W := by simp [sumTo, List.range_succ]
set_option maxHeartbeats 1000000 in
set_option maxRecDepth 100000 in
theorem ownerEven_walk (w : World) (x : Int) (x0 : -9223372036854775808 ≤ x) (x1 : x ≤ 9223372036854775807) (y : Int) (y0 : -9223372036854775808 ≤ y) (y1 : y ≤ 9223372036854775807) :
    Calls Try.prog 5 #[.int .i64 x, .int .i64 y] w fun e w' => e = .returned (.bool true) ∧ Below w.heap.size w w' := by
  go_enter Try.func5, Try.ntmps5
  go_wp2_with fail
  refine (picked_any x 201 _ x0 x1 (by omega) (by omega)).mono ?_; rintro e w' ⟨rfl, rfl⟩
  have hn := pickN_lt x (m := 201) (by omega)
  generalize pickN x 201 = n at hn ⊢
  go_wp2_with fail
  refine (picked_any y 8 _ y0 y1 (by omega) (by omega)).mono ?_; rintro e w' ⟨rfl, rfl⟩
  have hW := pickN_lt y (m := 8) (by omega)
  generalize pickN y 8 = W0 at hW ⊢
  clear x0 x1 y0 y1
  go_wp2_with fail
  obtain ⟨W, hW'⟩ : ∃ W, W = 1 + W0 := ⟨_, rfl⟩
  have e : (1 + (W0 : Int)) = (W : Int) := by omega
  rw [e]
  have hW1 : 1 ≤ W := by omega
  have hW8 : W ≤ 8 := by omega
  clear e hW' hW
  obtain ⟨q, hq, hev⟩ : ∃ q : Nat, q ≤ n ∧ ∀ k, k < W → q ≤ cntV k n W ∧ cntV k n W ≤ q + 1 := ⟨n / W, Nat.div_le_self _ _, fun k hk => cntV_even hk⟩
  have HE := Lib.hid hev
  clear hev
  go_loopw [7, 8, 9, 10] (fun s l m i wr => ∃ k least most : Nat, i = .int .i64 (k : Int) ∧ k ≤ W ∧ s = .int .i64 (sumTo n W k : Int) ∧ l = .int .i64 (least : Int) ∧ m = .int .i64 (most : Int) ∧ q ≤ least ∧ least ≤ n ∧ most ≤ q + 1 ∧ sumTo n W k ≤ 201 * k ∧ Below w.heap.size w wr ∧ w.heap.size ≤ wr.heap.size)
    (fun _ _ _ i _ => 9 - (intOf i).toNat)
  case atStart => exact ⟨0, n, 0, rfl, by omega, rfl, rfl, rfl, hq, Nat.le_refl _, by omega, by simp [sumTo], Below.refl _ _, Nat.le_refl _⟩
  case round =>
    obtain ⟨k, least, most, rfl, hk, rfl, rfl, rfl, hl1, hl2, hm, hs, hb, hsz⟩ := hrel
    by_cases hlt : k < W
    · have hev := HE.out k hlt
      have hcl := cntV_le (w := k) (n := n) hW1
      have hss := Lib.hid (sumTo_succ n W k)
      generalize hs1 : sumTo n W (k + 1) = s1 at hss
      have HS := Lib.hid hs1
      clear hs1
      go_wp2_with fail
      refine (mine_any k n W _ hlt (by omega) hW8).mono ?_; rintro e w2 ⟨p2, c2, rfl, ho2, hb2⟩
      generalize hs2 : cntV k n W = c at *
      generalize hs3 : sumTo n W k = s at *
      have hbb := hb.trans (hb2.mono hsz)
      have hz2 := Nat.le_trans hsz hb2.size
      clear ho2 hb2 hb hsz
      by_cases h1 : most < c <;> by_cases h2 : c < least
      all_goals
        go_wp2
        go_roundw
        case rel =>
          first
          | exact ⟨k + 1, least, most, by go_num, by omega, by rw [HS.out, hss.out]; go_num, rfl, rfl, by omega, by omega, by omega, by rw [HS.out, hss.out]; omega, hbb, hz2⟩
          | exact ⟨k + 1, least, c, by go_num, by omega, by rw [HS.out, hss.out]; go_num, rfl, rfl, by omega, by omega, by omega, by rw [HS.out, hss.out]; omega, hbb, hz2⟩
          | exact ⟨k + 1, c, most, by go_num, by omega, by rw [HS.out, hss.out]; go_num, rfl, rfl, by omega, by omega, by omega, by rw [HS.out, hss.out]; omega, hbb, hz2⟩
          | exact ⟨k + 1, c, c, by go_num, by omega, by rw [HS.out, hss.out]; go_num, rfl, rfl, by omega, by omega, by omega, by rw [HS.out, hss.out]; omega, hbb, hz2⟩
        case measure => simp [intOf]; omega
    · obtain rfl : k = W := by omega
      have hsum : sumTo n k k = n := cntV_sum hW1
      rw [hsum]
      have hd : decide ((most : Int) - (least : Int) ≤ 1) = true := by simp <;> omega
      clear hsum
      go_wp2
      go_ret
      exact ⟨rfl, hb⟩
end Go.Proofs.Ytfkjojagdgbhdaa
