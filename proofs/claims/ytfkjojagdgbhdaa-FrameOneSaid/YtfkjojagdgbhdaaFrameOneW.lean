/- The walk of the law FrameOne. -/
import Derived.Test.YtfkjojagdgbhdaaWrap
import Derived.Test.YtfkjojagdgbhdaaUnwrap
import Derived.Test.YtfkjojagdgbhdaaOwn2
import Derived.Test.YtfkjojagdgbhdaaFrameSumW
import Derived.Deep.RegionHeld3
import Derived.Deep.RegionWith
import Derived.IntWalk
namespace Go.Proofs.Ytfkjojagdgbhdaa
open Go.RowKit
set_option maxHeartbeats 2000000 in
set_option maxRecDepth 100000 in
theorem frameOne_walk (w : World) (v1 : Value) (l1 : List Nat) (hl1 : IsB w v1 l1) (x : Int) (x0 : -9223372036854775808 ≤ x) (x1 : x ≤ 9223372036854775807) (y : Int) (y0 : -9223372036854775808 ≤ y) (y1 : y ≤ 9223372036854775807) :
    Calls Try.prog 13 #[v1, .int .i64 x, .int .i64 y] w fun e w' => e = .returned (.bool true) ∧ Below w.heap.size w w' := by
  obtain ⟨p1, c1, rfl⟩ := hl1.val
  have HL1 := Lib.hid hl1
  have hb300 : (l1.take 300).length ≤ 300 := List.length_take_le _ _
  have HB := Lib.hid (show AllB (l1.take 300) from fun x hx => hl1.2 x (List.mem_of_mem_take hx))
  clear hl1
  go_enter Try.func13, Try.ntmps13
  go_wp2_with fail
  refine (some_any p1 c1 _ l1 300 w HL1.out (by omega)).mono ?_; rintro e w1 ⟨q1, d1, rfl, ho1, hb1⟩
  generalize l1.take 300 = b at *
  have HI1 := Lib.hid (IsB.of_own ho1 HB.out)
  go_wp2_with fail
  refine (wrap_any q1 d1 _ b w1 HI1.out (by omega)).mono ?_; rintro e w2 ⟨q2, d2, rfl, ho2, hb2⟩
  have hwl := wrapL_len b
  have hpp := put_pos b.length
  have hp10 : (put b.length).length ≤ 10 := put_len10 (by unfold U64; omega)
  have hUW := fun i c hi h0 hc => unwrapL_flip (b := b) HB.out (by omega) (i := i) (c := c) hi h0 hc
  have HWB := Lib.hid (wrapL_bytes HB.out)
  have HU := Lib.hid hUW
  clear hUW
  generalize (put b.length).length = P at *
  generalize hf : wrapL b = f at *
  have HF := Lib.hid hf
  clear hf
  have HWL := Lib.hid hwl
  rw [hwl] at ho2 ⊢
  clear hwl
  obtain ⟨g, rfl, hg1, hg2⟩ := own_form ho2 (by omega)
  obtain ⟨hb2', hz2⟩ := below_step hb1 hb1.size hb2
  have hi := pickN_lt x (m := b.length + 4) (by omega)
  have HPI := Lib.hid (fun W => picked_i x ((b.length : Int) + 4) (b.length + 4) W (by omega) x0 x1 (by omega) (by omega))
  generalize pickN x (b.length + 4) = i at hi HPI
  have hc0 := pickN_lt y (m := 255) (by omega)
  have HPC := Lib.hid (fun W => picked_i y 255 255 W (by omega) y0 y1 (by omega) (by omega))
  generalize pickN y 255 = c0 at hc0 HPC
  obtain ⟨c, hc⟩ : ∃ c : Nat, c = 1 + c0 := ⟨_, rfl⟩
  have hc1 : 0 < c := by omega
  have hc2 : c < 256 := by omega
  have hcw2 : (1 + (c0 : Int)) % 256 = (c : Int) := by omega
  obtain ⟨xa, hxa, hca, hfa, hoa, hga⟩ := own_flip ho2 HWB.out (i := P + i) (by omega) hc2
  have HO := Lib.hid hoa
  have HG := Lib.hid hga
  clear hoa hga hc x0 x1 y0 y1
  go_wp2_with fail
  have e : ((P : Int) + (b.length : Int) + 4 - (b.length : Int) - 4) = (P : Int) := by omega
  rw [e]
  clear e
  have hsum : IntKind.i64.wrap ((P : Int) + (i : Int)) = (P : Int) + (i : Int) := IntWalk.i64_in _ (by omega)
  have hs0 : (0 : Int) ≤ (P : Int) + (i : Int) := by omega
  have hs1 : (P : Int) + (i : Int) < (P : Int) + (b.length : Int) + 4 := by omega
  have hsn : ((P : Int) + (i : Int)).toNat = P + i := by omega
  have hsb : IntKind.i64.wrap ((b.length : Int) + 4) = (b.length : Int) + 4 := IntWalk.i64_in _ (by omega)
  have hsc : IntKind.i64.wrap (1 + (c0 : Int)) = 1 + (c0 : Int) := IntWalk.i64_in _ (by omega)
  go_region_with (first
      | (go_at_call_of 18 (Value.int IntKind.i64 x); refine (HPI.out _).mono ?_; rintro e w' ⟨rfl, rfl⟩)
      | (go_at_call_of 18 (Value.int IntKind.i64 y); refine (HPC.out _).mono ?_; rintro e w' ⟨rfl, rfl⟩))
  all_goals
    have hcw : IntKind.u8.wrap (1 + (c0 : Int)) = (c : Int) := by rw [IntKind.wrap_u8]; omega
    have fb : AllB (flip f (P + i) c) := flip_bytes HWB.out hc2
    have HI5 := Lib.hid (IsB.of_own HO.out fb)
    have HX := Lib.hid (HU.out i c hi hc1 hc2)
    have hbel := (hb2'.setCell (p := ⟨g, P + i, none⟩) (by show w.heap.size ≤ g; have := hb1.size; omega) (.int .u8 (bits .xor .u8 (xa : Int) (c : Int)))).drew
    clear hsum hs0 hs1 hsn hsb hsc hca hfa
    simp only [hcw]
    clear hcw
    generalize (flip f (P + i) c) = f2 at *
    go_wp2_with fail
    refine (unwrap_any (some ⟨g, 0, none⟩) d2 _ f2 _ HI5.out.drew).mono ?_
    rintro e w6 ⟨p6, c6, rfl, ho6, hb6⟩
    rw [HX.out] at ho6 ⊢
    have hfin := (below_step hbel hbel.size hb6).1
    clear ho6 hb6 hbel ho1 ho2
    go_wp2_with fail
    go_ret
    exact ⟨rfl, hfin⟩
end Go.Proofs.Ytfkjojagdgbhdaa
