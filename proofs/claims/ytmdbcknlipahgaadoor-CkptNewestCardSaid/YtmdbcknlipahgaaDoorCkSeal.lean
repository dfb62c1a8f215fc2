/- The walk of ckpt.Seal. -/
import Derived.Test.YtmdbcknlipahgaaDoorCkPut
import Derived.Test.YtmdbcknlipahgaaDoorDRen
import Derived.Test.YtmdbcknlipahgaaDoorPCkD
import Derived.Deep.DeepCutAuto
import Derived.Deep.RegionHeld3
namespace Go.Proofs.YtmdbcknlipahgaaDoor
open Go.RowKit Go.Sort Go.Proofs
theorem svN_ok (n : Nat) (hn : n < 2) : NmOk (svN n) := by
  obtain rfl | rfl : n = 0 ∨ n = 1 := by omega
  · exact ⟨by decide, by decide, by rw [ByteArray.toList_eq]; rfl, by rw [ByteArray.toList_eq]; decide⟩
  · exact ⟨by decide, by decide, by rw [ByteArray.toList_eq]; rfl, by rw [ByteArray.toList_eq]; decide⟩
theorem nx_sv (n : Nat) (hn : n < 2) : nxN.toList ≠ (svN n).toList := by
  obtain rfl | rfl : n = 0 ∨ n = 1 := by omega
  · rw [ByteArray.toList_eq, ByteArray.toList_eq]; decide
  · rw [ByteArray.toList_eq, ByteArray.toList_eq]; decide
theorem sv_ne : (svN 0).toList ≠ (svN 1).toList := by
  rw [ByteArray.toList_eq, ByteArray.toList_eq]; decide
theorem nm3 : Nm3 nxN (svN 0) (svN 1) := ⟨nxN_ok, svN_ok 0 (by omega), svN_ok 1 (by omega), nx_sv 0 (by omega), nx_sv 1 (by omega), sv_ne⟩
set_option maxHeartbeats 4000000 in
set_option maxRecDepth 100000 in
theorem ckseal_ok (n : Nat) (hn : n < 2) (dv : Value) (l : List (Fl × Value)) (w : World) (hR : RDk w 0 dv l) (hD : DkOk (l.map (·.1))) (hi : ixF (l.map (·.1)) nxN < l.length) :
    Calls Tryd.prog 22 #[.agg #[dv], .int .i64 (n : Int)] w fun e w' => ∃ p c l', e = .returned (.tuple #[.agg #[.slice p l'.length c], .int .i64 0]) ∧ Hid (l'.map (·.1) = reF (syF (l.map (·.1)) nxN) nxN (svN n)) ∧ RDk w' w.heap.size (.slice p l'.length c) l' ∧ Below w.heap.size w w' := by
  have HSY := Lib.hid (fun (W : World) (hW : Below w.heap.size w W) => sync_hit nxN dv l W (hR.later hW) hD hi)
  have HSL := Lib.hid (fun (W : World) => slot_ok n hn W)
  have HRN := Lib.hid (fun (v2 : Value) (l2 : List (Fl × Value)) (h2 : l2.map (·.1) = syF (l.map (·.1)) nxN) (W : World) (hR2 : RDk W 0 v2 l2) => rename_hit nxN v2 l2 (svN n) W hR2 (by rw [h2]; exact dk_sy hD nxN) (svN_ok n hn) (by
    have h3 := ix_sy (l.map (·.1)) nxN (by rw [List.length_map]; exact hi)
    rw [← h2, List.length_map] at h3
    exact h3) (nx_sv n hn))
  obtain ⟨pd, cd, rfl, hcd1, hcd2⟩ := hR.val
  have hn1 : decide ((n : Int) < 0) = false := by simp <;> omega
  have hn2 : decide ((1 : Int) < (n : Int)) = false := by simp; omega
  have hn3 : decide (1 < n) = false := by simp; omega
  clear hR hD hi
  obtain ⟨b1, B1, z1⟩ := boxed0 w [.slice pd l.length cd] 61
  have hs1 : (w.alloc (.cells #[.slice pd l.length cd] 61)).heap.size = w.heap.size + 1 := by simp
  obtain ⟨b2, B2, z2⟩ := boxed0 (w.alloc (.cells #[.slice pd l.length cd] 61)) [.slice none 0 0] 61
  have hb0 : Below w.heap.size w _ := b1.trans (b2.mono (by omega))
  have X1 := B1.next b2
  rw [hs1] at B2
  have hk0 := X1.one
  go_enter Tryd.func22, Tryd.ntmps22
  go_wp2_with fail
  refine (HSY.out _ hb0).mono ?_; rintro e w1 ⟨p1, c1, l1, rfl, hl1, hR1, hb1⟩
  have hw1 := hb0.trans (hb1.mono hb0.size)
  have Y4 := B2.next hb1
  obtain ⟨b3, B3, z3⟩ := boxed0 w1 [.slice p1 l1.length c1] 61
  have Z4 := Y4.next b3
  have hyl := Y4.lt
  have hR2 := (hR1.later b3).mono (Nat.zero_le _)
  have hw2 := hw1.trans (b3.mono hw1.size)
  have hk0 := B3.one
  go_upto_region 6 with fail
  generalize (w1.alloc (.cells #[.slice p1 l1.length c1] 61)) = w2 at *
  have hzl := Z4.lt
  go_cut [5] (fun s5 wx => ∃ (p : Option Addr) (c : Nat) (l' : List (Fl × Value)), s5 = .int .i64 0 ∧ Hid (l'.map (·.1) = reF (syF (l.map (·.1)) nxN) nxN (svN n)) ∧ RDk wx w.heap.size (.slice p l'.length c) l' ∧ Bx wx (w.heap.size + 1) [.slice p l'.length c] ∧ Below w.heap.size w wx)
  case first =>
    go_region_held3 (fun w' => w'.cell? ⟨w1.heap.size, 0, none⟩ = some (Value.slice p1 l1.length c1)) (first | (exact hk1) | (exact hk0) | go_keep)
      (first
        | (go_at_call 50; refine (HSL.out _).mono ?_; rintro e wn ⟨rfl, rfl⟩)
        | (go_at_call 49; refine (HRN.out _ l1 hl1.out w2.drew (hR2.later ((Below.refl _ w2).drew))).mono ?_; rintro e w3 ⟨p, c, l', rfl, hl', hR3, hb3⟩; have hbx : Below w2.heap.size w2 w3 := ((Below.refl _ w2).drew).trans hb3; have V4 := Z4.next hbx; obtain ⟨hv4, hvf⟩ := V4.one'; have hk0 := (B3.next hbx).one; have hk1 := (bx_oth (B3.next hbx) (a := ⟨w.heap.size + 1, 0, none⟩) (by show w1.heap.size ≠ w.heap.size + 1; omega) (.slice p l'.length c)).one)
        | fail)
    all_goals go_wp2_with fail
    all_goals go_meet
    case rel => exact ⟨p, c, l', rfl, by rw [hl1.out] at hl'; exact hl', (hR3.setCell (by show w.heap.size + 1 < _; exact hzl) _).mono hw2.size, V4.setc 0 _, (hw2.trans (hbx.mono hw2.size)).setCell (by show w.heap.size ≤ w.heap.size + 1; omega) _⟩
  case rest =>
  obtain ⟨p, c, l', rfl, hl', hR', V4, hb'⟩ := hcut
  have hv4 := V4.one
  go_wp2_with fail
  refine bodyPost_ret (v := .tuple #[.agg #[.slice p l'.length c], .int .i64 0]) ?_ rfl ⟨p, c, l', rfl, hl', hR', hb'⟩
  rw [results_cell_tmp rfl]
  go_simp
end Go.Proofs.YtmdbcknlipahgaaDoor
