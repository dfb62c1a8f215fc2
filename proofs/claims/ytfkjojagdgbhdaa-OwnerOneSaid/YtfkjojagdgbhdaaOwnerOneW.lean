/- The walk of the law OwnerOne. -/
import Derived.Test.YtfkjojagdgbhdaaOf
import Derived.Test.YtfkjojagdgbhdaaPick
namespace Go.Proofs.Ytfkjojagdgbhdaa
open Go.RowKit
def foundB (v W k : Nat) : Nat := if v % W < k then 1 else 0
def foundI (v W k i : Nat) : Nat := if v % W = k ∧ v / W < i then 1 else 0
theorem found_next {v n W k : Nat} (hv : v < n) (hW : 1 ≤ W) : foundB v W k + foundI v W k (cntV k n W) = foundB v W (k + 1) := by
  have h := cntV_iff (w := k) (n := n) (k := v / W) hW
  have hd := Nat.div_add_mod v W
  unfold foundB foundI
  by_cases h1 : v % W < k
  · rw [if_pos h1, if_neg (by omega), if_pos (by omega)]
  · rw [if_neg h1]
    by_cases h2 : v % W = k
    · rw [if_pos ⟨h2, h.2 (by rw [Nat.mul_comm]; omega)⟩, if_pos (by omega)]
    · rw [if_neg (by omega), if_neg (by omega)]
theorem found_hit {v W k i : Nat} (hW : 1 ≤ W) (hk : k < W) (hu : k + i * W = v) : v % W = k ∧ v / W = i ∧ foundI v W k i = 0 ∧ foundI v W k (i + 1) = 1 := by
  have h1 : v % W = k := by rw [← hu, Nat.add_mul_mod_self_right]; exact Nat.mod_eq_of_lt hk
  have h2 : v / W = i := by rw [← hu, Nat.add_mul_div_right _ _ (by omega), Nat.div_eq_of_lt hk]; omega
  unfold foundI
  exact ⟨h1, h2, by rw [if_neg (by omega)], by rw [if_pos ⟨h1, by omega⟩]⟩
theorem found_miss {v W k i : Nat} (hu : k + i * W ≠ v) : foundI v W k (i + 1) = foundI v W k i := by
  have hd := Nat.div_add_mod v W
  unfold foundI
  by_cases h : v % W = k ∧ v / W < i
  · rw [if_pos h, if_pos ⟨h.1, by omega⟩]
  · rw [if_neg h, if_neg]
    rintro ⟨h1, h2⟩
    have h3 : v / W = i := by omega
    apply hu
    rw [← h1, ← h3, Nat.mul_comm]
    omega
theorem found_le (v W k i : Nat) : foundB v W k + foundI v W k i ≤ 1 := by
  unfold foundB foundI
  by_cases h1 : v % W < k
  · rw [if_pos h1, if_neg (by omega)]; omega
  · rw [if_neg h1]; split <;> omega
theorem mineL_get {k n W i : Nat} (hi : i < cntV k n W) : (its (mineL k n W))[i]? = some (.int .i64 ((k + i * W : Nat) : Int)) := by
  unfold its mineL
  rw [List.getElem?_map, List.getElem?_map, List.getElem?_range hi]
  rfl
set_option maxHeartbeats 1000000 in
set_option maxRecDepth 100000 in
theorem ownerOne_walk (w : World) (x : Int) (x0 : -9223372036854775808 ≤ x) (x1 : x ≤ 9223372036854775807) (y : Int) (y0 : -9223372036854775808 ≤ y) (y1 : y ≤ 9223372036854775807) (z : Int) (z0 : -9223372036854775808 ≤ z) (z1 : z ≤ 9223372036854775807) :
    Calls Try.prog 9 #[.int .i64 x, .int .i64 y, .int .i64 z] w fun e w' => e = .returned (.bool true) ∧ Below w.heap.size w w' := by
  go_enter Try.func9, Try.ntmps9
  go_wp2_with fail
  refine (picked_any x 200 _ x0 x1 (by omega) (by omega)).mono ?_; rintro e w' ⟨rfl, rfl⟩
  have hn := pickN_lt x (m := 200) (by omega)
  generalize pickN x 200 = n0 at hn ⊢
  go_wp2_with fail
  refine (picked_any y 8 _ y0 y1 (by omega) (by omega)).mono ?_; rintro e w' ⟨rfl, rfl⟩
  have hW := pickN_lt y (m := 8) (by omega)
  generalize pickN y 8 = W0 at hW ⊢
  clear x0 x1 y0 y1
  go_wp2_with fail
  obtain ⟨W, hW'⟩ : ∃ W, W = 1 + W0 := ⟨_, rfl⟩
  obtain ⟨n, hn'⟩ : ∃ n, n = 1 + n0 := ⟨_, rfl⟩
  have e : (1 + (W0 : Int)) = (W : Int) := by omega
  have e' : (1 + (n0 : Int)) = (n : Int) := by omega
  rw [e, e']
  have hW1 : 1 ≤ W := by omega
  have hW8 : W ≤ 8 := by omega
  have hn1 : 1 ≤ n := by omega
  have hn200 : n ≤ 200 := by omega
  clear e hW' hW e' hn' hn
  refine (picked_any z n _ z0 z1 (by omega) (by omega)).mono ?_; rintro e w' ⟨rfl, rfl⟩
  have hv := pickN_lt z (m := n) (by omega)
  generalize pickN z n = v at hv ⊢
  clear z0 z1
  go_wp2_with fail
  go_loopw [10, 11] (fun m i wr => ∃ k : Nat, i = .int .i64 (k : Int) ∧ k ≤ W ∧ m = .int .i64 (foundB v W k : Int) ∧ Below w.heap.size w wr ∧ w.heap.size ≤ wr.heap.size)
    (fun _ i _ => 9 - (intOf i).toNat)
  case atStart => exact ⟨0, rfl, by omega, by simp [foundB], Below.refl _ _, Nat.le_refl _⟩
  case round =>
    obtain ⟨k, rfl, hk, rfl, hb, hsz⟩ := hrel
    by_cases hlt : k < W
    · have hfn := Lib.hid (found_next (k := k) hv hW1)
      have hcl := cntV_le (w := k) (n := n) hW1
      have hfl := fun i => found_le v W k i
      have HFL := Lib.hid hfl
      clear hfl
      generalize hF : foundB v W k = F at *
      go_wp2_with fail
      refine (mine_any k n W _ hlt hn200 hW8).mono ?_; rintro e w2 ⟨p2, c2, rfl, ho2, hb2⟩
      have hget := fun i (hi : i < cntV k n W) => mineL_get hi
      have hsl := Sl.of_own ho2
      generalize hC : cntV k n W = C at *
      have HC := Lib.hid hC
      have HF := Lib.hid hF
      clear hC hF
      have hbb := hb.trans (hb2.mono hsz)
      have hz2 := Nat.le_trans hsz hb2.size
      clear ho2 hb2 hb hsz
      have HS := Lib.hid hsl
      have HG := Lib.hid hget
      clear hsl hget
      go_wp2_with fail
      go_loop [10, 14] (fun m i => ∃ j : Nat, i = .int .i64 (j : Int) ∧ j ≤ C ∧ m = .int .i64 ((F + foundI v W k j : Nat) : Int)) (fun _ i => 300 - (intOf i).toNat)
      case atStart => exact ⟨0, rfl, by omega, by simp [foundI]⟩
      case round =>
        obtain ⟨j, rfl, hj, rfl⟩ := hrel
        by_cases hjl : j < C
        · obtain ⟨b, off, rfl, hcell⟩ := HS.out.get (HG.out j hjl)
          obtain ⟨u, hu⟩ : ∃ u, u = k + j * W := ⟨_, rfl⟩
          rw [← hu] at hcell
          have HU := Lib.hid hu
          clear hu
          have hjC := hj
          by_cases huv : u = v
          · obtain ⟨r1, r2, r3, r4⟩ := found_hit (i := j) hW1 hlt (HU.out.symm.trans huv)
            subst huv
            have hf1 := HFL.out (j + 1)
            rw [r3]
            go_wp2_with fail
            refine (of_any u n W _ hv hn200 hW1 hW8).mono ?_; rintro e w' ⟨rfl, rfl⟩
            rw [r1]
            go_wp2_with fail
            refine (place_any u n W _ hv hn200 hW1 hW8).mono ?_; rintro e w' ⟨rfl, rfl⟩
            rw [r2]
            go_wp2_with fail
            go_round
            case rel => exact ⟨j + 1, by go_num, by omega, by rw [r4]; go_num⟩
            case measure => simp [intOf]; omega
          · have r5 := found_miss (v := v) (i := j) (W := W) (k := k) (fun h => huv (HU.out.trans h))
            have hne : ((u : Int) != (v : Int)) = true := by simp <;> omega
            go_wp2_with fail
            go_round
            case rel => exact ⟨j + 1, by go_num, by omega, by rw [r5]⟩
            case measure => simp [intOf]; omega
        · obtain rfl : j = C := by omega
          have e1 := hfn.out
          rw [e1]
          clear e1
          go_wp2_with fail
          go_roundw
          case rel => exact ⟨k + 1, by go_num, by omega, rfl, hbb, hz2⟩
          case measure => simp [intOf]; omega
    · obtain rfl : k = W := by omega
      have hm := Nat.mod_lt v (show 0 < k by omega)
      have e1 : foundB v k k = 1 := by unfold foundB; rw [if_pos hm]
      rw [e1]
      clear e1 hm
      go_wp2_with fail
      go_ret
      exact ⟨rfl, hb⟩
end Go.Proofs.Ytfkjojagdgbhdaa
