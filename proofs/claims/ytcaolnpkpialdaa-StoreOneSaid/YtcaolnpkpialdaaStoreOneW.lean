/- The walk of the law StoreOne. -/
import Derived.Test.YtcaolnpkpialdaaBuild
import Derived.Test.YtcaolnpkpialdaaOpenBad
import Derived.Test.YtcaolnpkpialdaaMade
import Derived.Test.YtcaolnpkpialdaaOwnFlip
import Derived.Test.YtcaolnpkpialdaaPTorn
import Derived.Deep.RegionHeld3
import Derived.Deep.RegionWith
import Derived.IntWalk
namespace Go.Proofs.Ytcaolnpkpialdaa
open Go.RowKit Go.Sort Go.Proofs
theorem unwrapL_torn4 {b : List Nat} (hb : b.length ≤ 20000) {m : Nat} (hm : m < (wrapL b).length) : (unwrapL ((wrapL b).take m)).2.2 = 4 := by
  have hu : b.length < U64 := by unfold U64; omega
  have hpl : (put b.length).length ≤ 10 := put_len10 hu
  by_cases hc : m < (put b.length).length
  · have e : (wrapL b).take m = (put b.length).take m := by
      unfold wrapL bodyL
      rw [List.append_assoc, List.take_append_of_le_length (by omega)]
    rw [e, unwrapL_get (N := 0) (k := 0) (e := 4) (getF_torn _ _ 0 0 m (Nat.le_refl _) (by omega) hc) (by decide)]
  · have e : (wrapL b).take m = put b.length ++ (b ++ le4 (sumL (bodyL b))).take (m - (put b.length).length) := by
      unfold wrapL
      conv => lhs; rw [show bodyL b ++ le4 (sumL (bodyL b)) = put b.length ++ (b ++ le4 (sumL (bodyL b))) from by unfold bodyL; rw [List.append_assoc]]
      rw [List.take_append, List.take_of_length_le (by omega)]
    have hg := getL_put hu ((b ++ le4 (sumL (bodyL b))).take (m - (put b.length).length))
    rw [← e] at hg
    have hl : ((wrapL b).take m).length = m := by rw [List.length_take]; omega
    rw [wrapL_len] at hm
    rw [unwrapL_short hg (by omega) (by omega)]
theorem getL_wrapL {b : List Nat} (hb : b.length ≤ 20000) : getL (wrapL b) = (b.length, (put b.length).length, 0) := by
  unfold wrapL bodyL
  rw [List.append_assoc]
  exact getL_put (by unfold U64; omega) _
set_option linter.unusedVariables false in
set_option maxHeartbeats 8000000 in
set_option maxRecDepth 100000 in
theorem storeOne_walk (w : World) (n : Int) (hn0 : -9223372036854775808 ≤ n) (hn1 : n ≤ 9223372036854775807) (v1 : Value) (raw : List (List Int)) (h1 : IsR 3 w v1 raw) (x : Int) (hx0 : -9223372036854775808 ≤ x) (hx1 : x ≤ 9223372036854775807) (y : Int) (hy0 : -9223372036854775808 ≤ y) (hy1 : y ≤ 9223372036854775807) (z : Int) (hz0 : -9223372036854775808 ≤ z) (hz1 : z ≤ 9223372036854775807) (tear : Bool) :
    Calls Try.prog 11 #[.int .i64 n, v1, .int .i64 x, .int .i64 y, .int .i64 z, .bool tear] w fun e w' => e = .returned (.bool true) ∧ Below w.heap.size w w' := by
  obtain ⟨p1, c1, rfl⟩ := h1.val
  have HMA := Lib.hid (made_ok n p1 c1 _ raw 8 w hn0 hn1 h1 (by omega) (by omega))
  have hNa := pickN_lt n (m := 8) (by omega)
  have hEl := edgesL_len (1 + pickN n 8) raw
  have hEG := edgesL_in (1 + pickN n 8) raw (by omega)
  have HPX := Lib.hid (fun w' => picked_i x 4 4 w' rfl hx0 hx1 (by omega) (by omega))
  have hxa := pickN_lt x (m := 4) (by omega)
  generalize edgesL (1 + pickN n 8) raw = E at *
  obtain ⟨N, hN⟩ : ∃ N, N = 1 + pickN n 8 := ⟨_, rfl⟩
  rw [← hN] at HMA hEG
  have hN1 : 1 ≤ N := by omega
  have hN8 : N ≤ 8 := by omega
  clear hN hNa
  generalize pickN x 4 = kx at *
  obtain ⟨ne, hne⟩ : ∃ ne, ne = E.length := ⟨_, rfl⟩
  rw [← hne] at HMA hEl
  have HBU := Lib.hid (fun (W : World) (q : Option Addr) (d : Nat) (h : Sl W 3 (.slice q ne d) ne (ecs E)) => (show Calls Try.prog 28 #[.agg #[.int .i64 (N : Int), .slice q ne d], .int .i64 0, .int .i64 (1 + (kx : Int))] W fun e w' => ∃ p' c', e = .returned (.tuple #[.slice p' (wrapL (partL 0 (1 + kx) N E)).length c', .int .i64 0]) ∧ w'.ownsRow W.heap.size 5 1 (.slice p' (wrapL (partL 0 (1 + kx) N E)).length c') (wrapL (partL 0 (1 + kx) N E)).length (bys (wrapL (partL 0 (1 + kx) N E))) ∧ Below W.heap.size W w' from by
    have := build_ok N ne d 0 (1 + kx) q E W h hEG hN8 hEl (by omega) (by omega)
    rw [show ((1 + kx : Nat) : Int) = 1 + (kx : Int) by omega] at this
    exact this))
  have hPl := partL_len (w := 0) (W := 1 + kx) hEG (by omega) (by omega) (by omega) hN8
  have hPm := partL_min 0 (1 + kx) N E
  have hPb : AllB (partL 0 (1 + kx) N E) := inkS_bytes _ _ _ _ _ _
  generalize partL 0 (1 + kx) N E = b at *
  have hwl := wrapL_len b
  have hpp := put_pos b.length
  have hp10 : (put b.length).length ≤ 10 := put_len10 (by unfold U64; omega)
  have HU := Lib.hid (fun i c hi h0 hc => unwrapL_flip (b := b) hPb hPl (i := i) (c := c) hi h0 hc)
  have HT := Lib.hid (fun m hm => unwrapL_torn4 hPl (m := m) hm)
  have HWB := Lib.hid (wrapL_bytes hPb)
  have HGE := Lib.hid (getL_wrapL hPl)
  generalize wrapL b = f at *
  generalize (put b.length).length = P at *
  obtain ⟨bl, hbl⟩ : ∃ bl, bl = b.length := ⟨_, rfl⟩
  rw [← hbl] at HU HGE hPl hPm hwl
  obtain ⟨m, hm⟩ : ∃ m, m = f.length := ⟨_, rfl⟩
  have HML := Lib.hid hm
  rw [← hm] at HBU HT hwl
  have hm8 : 8 ≤ m := by omega
  have hPm2 : P < m := by omega
  have hm63 : m ≤ 100000 := by omega
  have HWL := Lib.hid hwl
  clear hbl hm hwl hne hPb h1 hn0 hn1 hx0 hx1 hEG hEl
  go_enter Try.func11, Try.ntmps11
  go_wp2_with fail
  refine HMA.out.mono ?_; rintro e w1 ⟨q1, d1, rfl, ho1, hb1⟩
  have HS1 := Lib.hid (Sl.of_own ho1)
  have HB1 := Lib.hid hb1
  obtain ⟨b2, B2, z2⟩ := boxed0 w1 [.int .i64 (N : Int), .slice q1 ne d1] 25
  have HX2 := Lib.hid B2
  have HS2 := Lib.hid (HS1.out.later b2)
  have HB2 := Lib.hid (HB1.out.trans (b2.mono HB1.out.size))
  obtain ⟨hx0, hx1, _, _⟩ := B2.two
  clear ho1 hb1 b2 B2 z2
  go_wp2_with fail
  refine (HPX.out _).mono ?_; rintro e wn ⟨rfl, rfl⟩
  go_wp2_with fail
  refine (HBU.out _ _ _ HS2.out).mono ?_; rintro e w3 ⟨p3, c3, rfl, ho3, hb3⟩
  have HO3 := Lib.hid ho3
  have HI3 := Lib.hid (IsB.of_own ho3 HWB.out)
  have HB3 := Lib.hid (HB2.out.trans (hb3.mono HB2.out.size))
  obtain ⟨g, rfl, hg1, hg2⟩ := own_form ho3 (by omega)
  have hgw : w.heap.size ≤ g := Nat.le_trans HB2.out.size hg1
  obtain ⟨hmc, hc63⟩ : m ≤ c3 ∧ c3 ≤ 9223372036854775807 := by have := HI3.out.lens; omega
  have hd1 : decide ((m : Int) < 8) = false := by simp; omega
  have hd2 : decide (m < 8) = false := by simp; omega
  clear ho3 hb3 hx0 hx1 hg1
  go_wp2_with fail
  refine (get_any _ _ _ f _ HI3.out).mono ?_; rintro e wn ⟨rfl, rfl⟩
  rw [HGE.out]
  dsimp only
  have he1 : decide ((P : Int) < 1) = false := by simp; omega
  have he2 : decide ((m : Int) ≤ (P : Int)) = false := by simp; omega
  have he3 : decide (m ≤ P) = false := by simp; omega
  have he4 : decide (P < 1) = false := by simp; omega
  cases tear
  · have hi := pickN_lt y (m := bl + 4) (by omega)
    have hPi : P + (bl + 4) = m := by have := HWL.out; omega
    have HPI := Lib.hid (fun W => picked_i y ((m : Int) - (P : Int)) (bl + 4) W (by omega) hy0 hy1 (by omega) (by omega))
    generalize pickN y (bl + 4) = i at hi HPI
    have hPim : P + i < m := by omega
    have hc0 := pickN_lt z (m := 255) (by omega)
    have HPC := Lib.hid (fun W => picked_i z 255 255 W (by omega) hz0 hz1 (by omega) (by omega))
    generalize pickN z 255 = c0 at hc0 HPC
    obtain ⟨c, hc⟩ : ∃ c : Nat, c = 1 + c0 := ⟨_, rfl⟩
    have hc1 : 0 < c := by omega
    have hc2 : c < 256 := by omega
    have hcw2 : (1 + (c0 : Int)) % 256 = (c : Int) := by omega
    have HCW := Lib.hid hcw2
    obtain ⟨xa, hxa, hca, hfa, hoa, hga⟩ := own_flip HO3.out HWB.out (i := P + i) hPim hc2
    have HO := Lib.hid hoa
    have hsum : IntKind.i64.wrap ((P : Int) + (i : Int)) = (P : Int) + (i : Int) := IntWalk.i64_in _ (by omega)
    have hs0 : (0 : Int) ≤ (P : Int) + (i : Int) := by omega
    have hs1 : (P : Int) + (i : Int) < (m : Int) := by omega
    have hsn : ((P : Int) + (i : Int)).toNat = P + i := by omega
    have hsb : IntKind.i64.wrap ((m : Int) - (P : Int)) = (m : Int) - (P : Int) := IntWalk.i64_in _ (by omega)
    have hsc : IntKind.i64.wrap (1 + (c0 : Int)) = 1 + (c0 : Int) := IntWalk.i64_in _ (by omega)
    clear hoa hga hc hcw2 hPi hy0 hy1 hz0 hz1
    go_wp2_with fail
    go_region_with (first
      | (go_at_call_of 15 (Value.int IntKind.i64 y); refine (HPI.out _).mono ?_; rintro e w' ⟨rfl, rfl⟩)
      | (go_at_call_of 15 (Value.int IntKind.i64 z); refine (HPC.out _).mono ?_; rintro e w' ⟨rfl, rfl⟩))
    all_goals
      have hcw : IntKind.u8.wrap (1 + (c0 : Int)) = (c : Int) := by rw [IntKind.wrap_u8]; exact HCW.out
      have fb : AllB (flip f (P + i) c) := flip_bytes HWB.out hc2
      have HI5 := Lib.hid (IsB.of_own HO.out fb)
      have HX := Lib.hid (HU.out i c hi hc1 hc2)
      have hbel := (HB3.out.setCell (p := ⟨g, P + i, none⟩) (by show w.heap.size ≤ g; exact hgw) (.int .u8 (bits .xor .u8 (xa : Int) (c : Int)))).drew
      clear hsum hs0 hs1 hsn hsb hsc hca hfa
      simp only [hcw]
      clear hcw
      generalize (flip f (P + i) c) = f2 at *
      go_wp2_with fail
      refine (open_bad _ _ _ f2 5 _ HI5.out.drew (by rw [HX.out]) (by omega)).mono ?_; rintro e w5 ⟨rfl, hb5⟩
      obtain ⟨b6, B6, z6⟩ := boxed0 w5 [.int .i64 0, .int .i64 0, .int .i64 0, .slice none 0 0, .slice none 0 0] 71
      obtain ⟨hx0, hx1, hx2, hx3, hx4⟩ := B6.five
      have HB6 := Lib.hid ((hbel.trans (hb5.mono hbel.size)).trans (b6.mono (hbel.trans (hb5.mono hbel.size)).size))
      unfold zpart
      clear B6 b6 z6 hb5 hbel
      go_wp2_with fail
      go_ret
      exact ⟨rfl, HB6.out⟩
  · have HPY := Lib.hid (fun w' => picked_i y (m : Int) m w' rfl hy0 hy1 (by omega) (by omega))
    have hya := pickN_lt y (m := m) (by omega)
    have HTT := Lib.hid (HT.out (pickN y m) hya)
    generalize pickN y m = k at *
    have hk0 : (0 : Int) ≤ (k : Int) := by omega
    have hkm : (k : Int) ≤ (m : Int) := by omega
    have hkc : (k : Int) ≤ (c3 : Int) := by omega
    have HIK := Lib.hid (show IsB w3 (.slice (some ⟨g, 0, none⟩) k c3) (f.take k) from HI3.out.take (by omega))
    clear hy0 hy1 hz0 hz1
    go_wp2_with fail
    refine (HPY.out _).mono ?_; rintro e wn ⟨rfl, rfl⟩
    go_wp2_with fail
    refine (open_bad _ _ _ (f.take k) 4 _ HIK.out HTT.out (by omega)).mono ?_; rintro e w5 ⟨rfl, hb5⟩
    obtain ⟨b6, B6, z6⟩ := boxed0 w5 [.int .i64 0, .int .i64 0, .int .i64 0, .slice none 0 0, .slice none 0 0] 71
    obtain ⟨hx0, hx1, hx2, hx3, hx4⟩ := B6.five
    have HB6 := Lib.hid ((HB3.out.trans (hb5.mono HB3.out.size)).trans (b6.mono (HB3.out.trans (hb5.mono HB3.out.size)).size))
    unfold zpart
    clear B6 b6 z6 hb5
    go_wp2_with fail
    go_ret
    exact ⟨rfl, HB6.out⟩
end Go.Proofs.Ytcaolnpkpialdaa
