/- The walk of pacelinekeep.done. -/
import Derived.Test.YtmadpjmlcooinaaDAny
import Derived.Test.YtmadpjmlcooinaaNotes
import Derived.Deep.RegionHeld3
import Derived.Deep.DeepCutAuto
import Derived.Deep.LoopGhost
namespace Go.Proofs.Ytmadpjmlcooinaa
open Go.RowKit
set_option linter.unusedVariables false in
set_option maxHeartbeats 16000000 in
set_option maxRecDepth 100000 in
theorem done_ok (v : Value) (L : List Nt) (w : World) (hL : IsNt w v L) :
    Calls Try.prog 26 #[v] w fun e w' => ∃ p c l, e = .returned (.tuple #[.agg #[.slice p l.length c], .bool true]) ∧ Hid (DnOk 20 (l.map (·.1))) ∧ RDk w' w.heap.size (.slice p l.length c) l ∧ Below w.heap.size w w' := by
  obtain ⟨pl, cl, rfl, hcl1, hcl2⟩ := hL.val
  have HL := Lib.hid hL
  clear hL
  obtain ⟨b1, B1, z1⟩ := boxed0 w [.slice none 0 0] 75
  have hs1 : (w.alloc (.cells #[.slice none 0 0] 75)).heap.size = w.heap.size + 1 := by simp
  obtain ⟨b2, B2, z2⟩ := boxed0 (w.alloc (.cells #[.slice none 0 0] 75)) [.slice none 0 0] 75
  have X1 := B1.next b2
  have hbw := b1.trans (b2.mono (by omega))
  rw [hs1] at B2 z2
  clear b1 b2 B1 z1 hs1
  go_enter Try.func26, Try.ntmps26
  go_wp2_with fail
  generalize ((w.alloc (.cells #[.slice none 0 0] 75)).alloc (.cells #[.slice none 0 0] 75)) = W0 at *
  obtain ⟨bd, hbd⟩ : ∃ bd, bd = w.heap.size + 1 := ⟨_, rfl⟩
  rw [← hbd] at B2 z2 ⊢
  have hbd1 : w.heap.size < bd := by omega
  clear hbd
  go_loopg [3, 5] 20 (fun gk v3 v5 wr => ∃ (i : Nat) (p : Option Addr) (c : Nat) (l : List (Fl × Value)), v3 = .bool false ∧ v5 = .int .i64 (i : Int) ∧ i + gk = 20 ∧ Hid (DnOk i (l.map (·.1))) ∧ Bx wr w.heap.size [.slice none 0 0] ∧ Bx wr bd [.slice p l.length c] ∧ RDk wr (bd + 1) (.slice p l.length c) l ∧ Below w.heap.size w wr ∧ bd + 1 ≤ wr.heap.size)
  case atStart => exact ⟨0, none, 0, [], rfl, rfl, by omega, Lib.hid (DnOk.nil 0), X1, B2, RDk.nil _ _, hbw, z2⟩
  case round =>
    clear X1 B2 hbw z2
    obtain ⟨i, p, c, l, rfl, rfl, hgi, HD, hX, hY, hR, hb, hsz⟩ := hrel
    have HGI := Lib.hid hgi
    have hi : i ≤ 20 := by omega
    clear hgi
    have HX := Lib.hid hX
    have HY := Lib.hid hY
    have HR := Lib.hid hR
    clear hX hY hR
    by_cases hgo : i < L.length ∧ i < 20
    · obtain ⟨hiL, hi20⟩ := hgo
      have hd1 : decide ((i : Int) < (L.length : Int)) = true := by simp; omega
      have hd2 : decide (i < L.length) = true := by simp; omega
      have hd3 : decide ((i : Int) < 20) = true := by simp; omega
      have hd4 : decide (i < 20) = true := by simp; omega
      have hi0 : (0 : Int) ≤ (i : Int) := by omega
      have hiL' : (i : Int) < (L.length : Int) := by omega
      obtain ⟨b, of, q, d, rfl, hc0, hc1, hc2, hc3, hdt, hr0, hr1, hr2⟩ := (HL.out.later hb).get hiL
      have hbb := World.block_lt_of_cell? wr _ hc1
      have HPK := Lib.hid (fun w' => picked_i L[i].1 6 6 w' rfl hr0.1 hr0.2 (by omega) (by omega))
      have hK6 := pickN_lt L[i].1 (m := 6) (by omega)
      have HDT := Lib.hid hdt
      have HNM := Lib.hid (fun (x : Int) (hx : InJ x) w' => name_ok x w' hx.1 hx.2)
      have HR1 := Lib.hid hr1
      have HR2 := Lib.hid hr2
      clear hr0 hr1 hr2 hdt
      generalize L[i].1 = k0 at *
      generalize L[i].2.1 = k1 at *
      generalize L[i].2.2.1 = k2 at *
      generalize L[i].2.2.2 = dt at *
      generalize hK : pickN k0 6 = K at *
      clear hK
      have hc1n := pickN_lt k1 (m := 4) (by omega)
      have hc2n := pickN_lt k2 (m := 4) (by omega)
      obtain ⟨b6, B6, z6⟩ := boxed0 wr [.int .i64 k0, .int .i64 k1, .int .i64 k2, .slice q dt.length d] 108
      have hs6 : (wr.alloc (.cells #[.int .i64 k0, .int .i64 k1, .int .i64 k2, .slice q dt.length d] 108)).heap.size = wr.heap.size + 1 := by simp
      obtain ⟨b7, B7, z7⟩ := boxed0 (wr.alloc (.cells #[.int .i64 k0, .int .i64 k1, .int .i64 k2, .slice q dt.length d] 108)) [.slice none 0 0] 75
      have N6 := B6.next b7
      have hb7 := b6.trans (b7.mono (by omega))
      rw [hs6] at B7 z7
      have hx6 := N6.four.1
      clear b6 b7 B6 z6 hs6
      go_wp2_with fail
      refine (HPK.out _).mono ?_; rintro e w' ⟨rfl, rfl⟩
      clear hx6 hc0 hc1 hc2 hc3 hbb HPK
      generalize ((wr.alloc (.cells #[.int .i64 k0, .int .i64 k1, .int .i64 k2, .slice q dt.length d] 108)).alloc (.cells #[.slice none 0 0] 75)) = wq at *
      have HN6 := Lib.hid N6
      have HB7 := Lib.hid B7
      have hbq := Lib.hid hb7
      clear N6 B7
      have hwq := Lib.hid (hb.trans (hb7.mono hb.size))
      obtain ⟨h6, hh6⟩ : ∃ h6, h6 = wr.heap.size := ⟨_, rfl⟩
      rw [← hh6] at HN6 HB7 z7 ⊢
      have hd6 : bd + 1 ≤ h6 := by omega
      clear hb7
      have HSZ := Lib.hid (And.intro hsz hh6)
      clear hh6 hsz
      have hbx := HY.out.next hbq.out
      have hk0 := hbx.one
      obtain ⟨hm0, hm1, hm2, hm3, _, _, _, _⟩ := HN6.out.four
      have hcur : Below wq.heap.size wq wq := Below.refl _ _
      have HRq := Lib.hid (HR.out.later hbq.out)
      have HDK := Lib.hid (HD.out.dk (by omega))
      have HF := Lib.hid (fun (W : World) (hW : Below wq.heap.size wq W) => (show W.cell? ⟨bd, 0, none⟩ = some (.slice p l.length c) ∧ (W.cell? ⟨h6, 1, none⟩ = some (.int .i64 k1) ∧ W.cell? ⟨h6, 2, none⟩ = some (.int .i64 k2) ∧ W.cell? ⟨h6, 3, none⟩ = some (.slice q dt.length d)) ∧ (W.cell? ⟨h6 + 1, 0, none⟩ = some (.slice none 0 0) ∧ W.frozen? ⟨h6 + 1, 0, none⟩ = false) from by
        obtain ⟨_, n1, n2, n3, _⟩ := (HN6.out.next hW).four
        obtain ⟨t7, ht7⟩ := HB7.out.next hW
        exact ⟨((HY.out.next hbq.out).next hW).one, ⟨n1, n2, n3⟩, by simp [World.cell?, ht7], by simp [World.frozen?, ht7]⟩))
      have hne1 : ¬ bd = h6 + 1 := by omega
      have hne2 : ¬ h6 + 1 = bd := by omega
      have hK : K = 0 ∨ K = 1 ∨ K = 2 ∨ 3 ≤ K := by omega
      rcases hK with hK | hK | hK | hK
      · obtain rfl : K = 0 := by omega
        go_upto_region 13 with fail
        go_region_held3 (fun w' => w'.cell? ⟨bd, 0, none⟩ = some (Value.slice p l.length c) ∧ w'.cell? ⟨h6, 1, none⟩ = some (Value.int .i64 k1)) (first | (exact ⟨hk0, hk1⟩) | go_keep)
          (first
            | (go_at_call 29; refine (HNM.out _ (by first | exact HR1.out | exact HR2.out) _).mono ?_; rintro e wn ⟨rfl, hbn⟩; (first | (replace hcur := below_next hcur (Nat.le_refl _) hbn) | (replace hcur := below_next hcur.drew (Nat.le_refl _) hbn)); obtain ⟨hk0, ⟨hk1, hk2, hk3⟩, hk7, hk8⟩ := HF.out wn hcur)
            | (go_at_call 33; refine (sync_any _ _ l _ ((HRq.out.later hcur).mono (Nat.zero_le _)) HDK.out).mono ?_; rintro e wz ⟨er, p9, c9, l9, rfl, her, hR9, hbz⟩; have hpre := hcur.size; replace hR9 := hR9.mono (B' := h6 + 1 + 1) (Nat.le_trans z7 hpre); (first | (replace hcur := below_next hcur (Nat.le_refl _) hbz) | (replace hcur := below_next hcur.drew (Nat.le_refl _) hbz)); obtain ⟨hk0, ⟨hk1, hk2, hk3⟩, hk7, hk8⟩ := HF.out wz hcur))
        all_goals
          have hR10 := Lib.hid ((hR9.setCell (a := ⟨h6 + 1, 0, none⟩) (by show h6 + 1 < h6 + 1 + 1; omega) (.slice p9 l9.length c9)).mono (B' := bd + 1) (by omega))
          have hXz := (HX.out.next hbq.out).next hcur
          have hYz := (HY.out.next hbq.out).next hcur
          have hwz := Lib.hid (hwq.out.trans (hcur.mono hwq.out.size))
          have hX10 := Lib.hid (bx_oth hXz (a := ⟨h6 + 1, 0, none⟩) (by show w.heap.size ≠ h6 + 1; omega) (.slice p9 l9.length c9))
          have hY10 := Lib.hid (bx_oth hYz (a := ⟨h6 + 1, 0, none⟩) (by show bd ≠ h6 + 1; omega) (.slice p9 l9.length c9))
          have hw10 := Lib.hid (show Below w.heap.size w (wz.setCell ⟨h6 + 1, 0, none⟩ (.slice p9 l9.length c9)) from hwz.out.setCell (by show w.heap.size ≤ h6 + 1; omega) _)
          have hs10 : bd + 1 ≤ (wz.setCell ⟨h6 + 1, 0, none⟩ (.slice p9 l9.length c9)).heap.size := by have := hcur.size; simp; omega
          have hbf : wz.frozen? ⟨bd, 0, none⟩ = false := by obtain ⟨ty, hty⟩ := hYz; simp [World.frozen?, hty]
          rcases her with ⟨rfl, hmap⟩ | ⟨rfl, hl9⟩
          · clear hXz hYz hR9 hpre hbz hbn
            go_wp2_with fail
            go_roundg (20 - (i + 1))
            case measure => have := HGI.out; omega
            case rel => exact ⟨i + 1, p9, c9, l9, rfl, by go_num, by omega, Lib.hid (by rw [hmap.out]; exact (HD.out.syn.mono (by omega))), bx_oth hX10.out (by show w.heap.size ≠ bd; omega) _, hY10.out.setc 0 _, hR10.out.setCell (by show bd < bd + 1; omega) _, hw10.out.setCell (by show w.heap.size ≤ bd; omega) _, by simp at hs10 ⊢; exact hs10⟩
          · have hRo := Lib.hid (HR.out.later (show Below wr.heap.size wr (wz.setCell ⟨h6 + 1, 0, none⟩ (.slice p9 l9.length c9)) from (hbq.out.trans (hcur.mono hbq.out.size)).setCell (by show wr.heap.size ≤ h6 + 1; have := HSZ.out.2; omega) _))
            clear hXz hYz hR9 hpre hbz hbn hl9
            go_wp2_with fail
            go_roundg (20 - (i + 1))
            case measure => have := HGI.out; omega
            case rel => exact ⟨i + 1, _, c, l, rfl, by go_num, by omega, Lib.hid (HD.out.mono (by omega)), hX10.out, hY10.out, hRo.out, hw10.out, hs10⟩
      · obtain rfl : K = 1 := by omega
        go_upto_region 15 with fail
        go_region_held3 (fun w' => w'.cell? ⟨bd, 0, none⟩ = some (Value.slice p l.length c) ∧ w'.cell? ⟨h6, 1, none⟩ = some (Value.int .i64 k1) ∧ w'.cell? ⟨h6, 2, none⟩ = some (Value.int .i64 k2)) (first | (exact ⟨hk0, hk1, hk2⟩) | go_keep)
          (first
            | (go_at_call 29; refine (HNM.out _ (by first | exact HR1.out | exact HR2.out) _).mono ?_; rintro e wn ⟨rfl, hbn⟩; (first | (replace hcur := below_next hcur (Nat.le_refl _) hbn) | (replace hcur := below_next hcur.drew (Nat.le_refl _) hbn)); obtain ⟨hk0, ⟨hk1, hk2, hk3⟩, hk7, hk8⟩ := HF.out wn hcur)
            | (go_at_call 32; refine (rename_any _ _ _ l _ ((HRq.out.later hcur).mono (Nat.zero_le _)) HDK.out (nmC_ok (by omega))).mono ?_; rintro e wz ⟨er, p9, c9, l9, rfl, her, hR9, hbz⟩; have hpre := hcur.size; replace hR9 := hR9.mono (B' := h6 + 1 + 1) (Nat.le_trans z7 hpre); (first | (replace hcur := below_next hcur (Nat.le_refl _) hbz) | (replace hcur := below_next hcur.drew (Nat.le_refl _) hbz)); obtain ⟨hk0, ⟨hk1, hk2, hk3⟩, hk7, hk8⟩ := HF.out wz hcur))
        all_goals
          have hR10 := Lib.hid ((hR9.setCell (a := ⟨h6 + 1, 0, none⟩) (by show h6 + 1 < h6 + 1 + 1; omega) (.slice p9 l9.length c9)).mono (B' := bd + 1) (by omega))
          have hXz := (HX.out.next hbq.out).next hcur
          have hYz := (HY.out.next hbq.out).next hcur
          have hwz := Lib.hid (hwq.out.trans (hcur.mono hwq.out.size))
          have hX10 := Lib.hid (bx_oth hXz (a := ⟨h6 + 1, 0, none⟩) (by show w.heap.size ≠ h6 + 1; omega) (.slice p9 l9.length c9))
          have hY10 := Lib.hid (bx_oth hYz (a := ⟨h6 + 1, 0, none⟩) (by show bd ≠ h6 + 1; omega) (.slice p9 l9.length c9))
          have hw10 := Lib.hid (show Below w.heap.size w (wz.setCell ⟨h6 + 1, 0, none⟩ (.slice p9 l9.length c9)) from hwz.out.setCell (by show w.heap.size ≤ h6 + 1; omega) _)
          have hs10 : bd + 1 ≤ (wz.setCell ⟨h6 + 1, 0, none⟩ (.slice p9 l9.length c9)).heap.size := by have := hcur.size; simp; omega
          have hbf : wz.frozen? ⟨bd, 0, none⟩ = false := by obtain ⟨ty, hty⟩ := hYz; simp [World.frozen?, hty]
          rcases her with ⟨rfl, hmap⟩ | ⟨rfl, hl9⟩
          · clear hXz hYz hR9 hpre hbz hbn
            go_wp2_with fail
            go_roundg (20 - (i + 1))
            case measure => have := HGI.out; omega
            case rel => exact ⟨i + 1, p9, c9, l9, rfl, by go_num, by omega, Lib.hid (by rw [hmap.out]; exact (HD.out.re (by omega)).mono (by omega)), bx_oth hX10.out (by show w.heap.size ≠ bd; omega) _, hY10.out.setc 0 _, hR10.out.setCell (by show bd < bd + 1; omega) _, hw10.out.setCell (by show w.heap.size ≤ bd; omega) _, by simp at hs10 ⊢; exact hs10⟩
          · have hRo := Lib.hid (HR.out.later (show Below wr.heap.size wr (wz.setCell ⟨h6 + 1, 0, none⟩ (.slice p9 l9.length c9)) from (hbq.out.trans (hcur.mono hbq.out.size)).setCell (by show wr.heap.size ≤ h6 + 1; have := HSZ.out.2; omega) _))
            clear hXz hYz hR9 hpre hbz hbn hl9
            go_wp2_with fail
            go_roundg (20 - (i + 1))
            case measure => have := HGI.out; omega
            case rel => exact ⟨i + 1, _, c, l, rfl, by go_num, by omega, Lib.hid (HD.out.mono (by omega)), hX10.out, hY10.out, hRo.out, hw10.out, hs10⟩
      · obtain rfl : K = 2 := by omega
        go_upto_region 17 with fail
        go_region_held3 (fun w' => w'.cell? ⟨bd, 0, none⟩ = some (Value.slice p l.length c) ∧ w'.cell? ⟨h6, 1, none⟩ = some (Value.int .i64 k1)) (first | (exact ⟨hk0, hk1⟩) | go_keep)
          (first
            | (go_at_call 29; refine (HNM.out _ (by first | exact HR1.out | exact HR2.out) _).mono ?_; rintro e wn ⟨rfl, hbn⟩; (first | (replace hcur := below_next hcur (Nat.le_refl _) hbn) | (replace hcur := below_next hcur.drew (Nat.le_refl _) hbn)); obtain ⟨hk0, ⟨hk1, hk2, hk3⟩, hk7, hk8⟩ := HF.out wn hcur)
            | (go_at_call 43; refine (remove_any _ _ l _ ((HRq.out.later hcur).mono (Nat.zero_le _)) HDK.out).mono ?_; rintro e wz ⟨er, p9, c9, l9, rfl, her, hR9, hbz⟩; have hpre := hcur.size; replace hR9 := hR9.mono (B' := h6 + 1 + 1) (Nat.le_trans z7 hpre); (first | (replace hcur := below_next hcur (Nat.le_refl _) hbz) | (replace hcur := below_next hcur.drew (Nat.le_refl _) hbz)); obtain ⟨hk0, ⟨hk1, hk2, hk3⟩, hk7, hk8⟩ := HF.out wz hcur))
        all_goals
          have hR10 := Lib.hid ((hR9.setCell (a := ⟨h6 + 1, 0, none⟩) (by show h6 + 1 < h6 + 1 + 1; omega) (.slice p9 l9.length c9)).mono (B' := bd + 1) (by omega))
          have hXz := (HX.out.next hbq.out).next hcur
          have hYz := (HY.out.next hbq.out).next hcur
          have hwz := Lib.hid (hwq.out.trans (hcur.mono hwq.out.size))
          have hX10 := Lib.hid (bx_oth hXz (a := ⟨h6 + 1, 0, none⟩) (by show w.heap.size ≠ h6 + 1; omega) (.slice p9 l9.length c9))
          have hY10 := Lib.hid (bx_oth hYz (a := ⟨h6 + 1, 0, none⟩) (by show bd ≠ h6 + 1; omega) (.slice p9 l9.length c9))
          have hw10 := Lib.hid (show Below w.heap.size w (wz.setCell ⟨h6 + 1, 0, none⟩ (.slice p9 l9.length c9)) from hwz.out.setCell (by show w.heap.size ≤ h6 + 1; omega) _)
          have hs10 : bd + 1 ≤ (wz.setCell ⟨h6 + 1, 0, none⟩ (.slice p9 l9.length c9)).heap.size := by have := hcur.size; simp; omega
          have hbf : wz.frozen? ⟨bd, 0, none⟩ = false := by obtain ⟨ty, hty⟩ := hYz; simp [World.frozen?, hty]
          rcases her with ⟨rfl, hmap⟩ | ⟨rfl, hl9⟩
          · clear hXz hYz hR9 hpre hbz hbn
            go_wp2_with fail
            go_roundg (20 - (i + 1))
            case measure => have := HGI.out; omega
            case rel => exact ⟨i + 1, p9, c9, l9, rfl, by go_num, by omega, Lib.hid (by rw [hmap.out]; exact (HD.out.rm.mono (by omega))), bx_oth hX10.out (by show w.heap.size ≠ bd; omega) _, hY10.out.setc 0 _, hR10.out.setCell (by show bd < bd + 1; omega) _, hw10.out.setCell (by show w.heap.size ≤ bd; omega) _, by simp at hs10 ⊢; exact hs10⟩
          · have hRo := Lib.hid (HR.out.later (show Below wr.heap.size wr (wz.setCell ⟨h6 + 1, 0, none⟩ (.slice p9 l9.length c9)) from (hbq.out.trans (hcur.mono hbq.out.size)).setCell (by show wr.heap.size ≤ h6 + 1; have := HSZ.out.2; omega) _))
            clear hXz hYz hR9 hpre hbz hbn hl9
            go_wp2_with fail
            go_roundg (20 - (i + 1))
            case measure => have := HGI.out; omega
            case rel => exact ⟨i + 1, _, c, l, rfl, by go_num, by omega, Lib.hid (HD.out.mono (by omega)), hX10.out, hY10.out, hRo.out, hw10.out, hs10⟩
      · have hK0 : ¬ (K : Int) = 0 := by omega
        have hK1 : ¬ (K : Int) = 1 := by omega
        have hK2 : ¬ (K : Int) = 2 := by omega
        have hsm := fun (W : World) (hW : Below wq.heap.size wq W) => some_any q d dt.length dt 30 W (HDT.out.later ((hbq.out).trans (hW.mono hbq.out.size))) (by omega)
        rw [show ((30 : Nat) : Int) = 30 from rfl] at hsm
        obtain ⟨d3, hd3⟩ : ∃ d3, d3 = dt.take 30 := ⟨_, rfl⟩
        have hd30 : d3.length ≤ 30 := by rw [hd3, List.length_take]; omega
        have HDB := Lib.hid (show AllB d3 from fun x hx => HDT.out.2 x (List.mem_of_mem_take (by rw [hd3] at hx; exact hx)))
        rw [← hd3] at hsm
        have HSM := Lib.hid hsm
        clear hsm hd3
        go_upto_region 9 with fail
        go_region_held3 (fun w' => w'.cell? ⟨bd, 0, none⟩ = some (Value.slice p l.length c) ∧ w'.cell? ⟨h6, 1, none⟩ = some (Value.int .i64 k1) ∧ w'.cell? ⟨h6, 3, none⟩ = some (Value.slice q dt.length d)) (first | (exact ⟨hk0, hk1, hk3⟩) | go_keep)
          (first
            | (go_at_call 29; refine (HNM.out _ (by first | exact HR1.out | exact HR2.out) _).mono ?_; rintro e wn ⟨rfl, hbn⟩; (first | (replace hcur := below_next hcur (Nat.le_refl _) hbn) | (replace hcur := below_next hcur.drew (Nat.le_refl _) hbn)); obtain ⟨hk0, ⟨hk1, hk2, hk3⟩, hk7, hk8⟩ := HF.out wn hcur)
            | (go_at_call 27; refine (HSM.out _ (by first | exact hcur | exact hcur.drew)).mono ?_; rintro e ws ⟨q5, d5, rfl, ho5, hb5⟩; (first | (replace hcur := below_next hcur (Nat.le_refl _) hb5) | (replace hcur := below_next hcur.drew (Nat.le_refl _) hb5)); have HSO := Lib.hid (fun W (hW : Below ws.heap.size ws W) => (Sl.of_own ho5).later hW); obtain ⟨hk0, ⟨hk1, hk2, hk3⟩, hk7, hk8⟩ := HF.out ws hcur)
            | (go_at_call 30; refine (append_any i _ _ l d3 _ _ _ ((HRq.out.later hcur).mono (Nat.zero_le _)) HD.out (by omega) (nmC_ok (by omega)) (HSO.out _ (by first | exact Below.refl _ _ | exact hbn)) hd30).mono ?_; rintro e wz ⟨p9, c9, l9, rfl, hmap, hR9, hbz⟩; have hpre := hcur.size; replace hR9 := hR9.mono (B' := h6 + 1 + 1) (Nat.le_trans z7 hpre); (first | (replace hcur := below_next hcur (Nat.le_refl _) hbz) | (replace hcur := below_next hcur.drew (Nat.le_refl _) hbz)); obtain ⟨hk0, ⟨hk1, hk2, hk3⟩, hk7, hk8⟩ := HF.out wz hcur))
        all_goals
          have hl9 : 0 < l9.length := by have := apF_pos (l.map (·.1)) (nmC (pickN k1 4)) d3; rw [← hmap.out, List.length_map] at this; exact this
          have hl9a : ¬ (l9.length : Int) = 0 := by omega
          have hl9b : ¬ l9.length = 0 := by omega
          have hR10 := Lib.hid ((hR9.setCell (a := ⟨h6 + 1, 0, none⟩) (by show h6 + 1 < h6 + 1 + 1; omega) (.slice p9 l9.length c9)).mono (B' := bd + 1) (by omega))
          have hXz := (HX.out.next hbq.out).next hcur
          have hYz := (HY.out.next hbq.out).next hcur
          have hwz := Lib.hid (hwq.out.trans (hcur.mono hwq.out.size))
          have hX10 := Lib.hid (bx_oth hXz (a := ⟨h6 + 1, 0, none⟩) (by show w.heap.size ≠ h6 + 1; omega) (.slice p9 l9.length c9))
          have hY10 := Lib.hid (bx_oth hYz (a := ⟨h6 + 1, 0, none⟩) (by show bd ≠ h6 + 1; omega) (.slice p9 l9.length c9))
          have hw10 := Lib.hid (show Below w.heap.size w (wz.setCell ⟨h6 + 1, 0, none⟩ (.slice p9 l9.length c9)) from hwz.out.setCell (by show w.heap.size ≤ h6 + 1; omega) _)
          have hs10 : bd + 1 ≤ (wz.setCell ⟨h6 + 1, 0, none⟩ (.slice p9 l9.length c9)).heap.size := by have := hcur.size; simp; omega
          have hbf : wz.frozen? ⟨bd, 0, none⟩ = false := by obtain ⟨ty, hty⟩ := hYz; simp [World.frozen?, hty]
          have HDN := Lib.hid (show DnOk (i + 1) (l9.map (·.1)) by rw [hmap.out]; exact HD.out.ap (by omega) hd30 HDB.out)
          clear hXz hYz hR9 hpre hbz hbn hmap
          go_wp2_with fail
          go_roundg (20 - (i + 1))
          case measure => have := HGI.out; omega
          case rel => exact ⟨i + 1, p9, c9, l9, rfl, by go_num, by omega, HDN, bx_oth hX10.out (by show w.heap.size ≠ bd; omega) _, hY10.out.setc 0 _, hR10.out.setCell (by show bd < bd + 1; omega) _, hw10.out.setCell (by show w.heap.size ≤ bd; omega) _, by simp at hs10 ⊢; exact hs10⟩
    · have hDN := Lib.hid (HD.out.mono hi)
      have hx := HY.out.one
      obtain ⟨ty, hty⟩ := HX.out
      have hxf : wr.frozen? ⟨w.heap.size, 0, none⟩ = false := by simp [World.frozen?, hty]
      have hxc : wr.cell? ⟨w.heap.size, 0, none⟩ = some (.slice none 0 0) := by simp [World.cell?, hty]
      clear hty
      by_cases hiL : i < L.length
      · have hi20 : i = 20 := by omega
        subst hi20
        have hd1 : decide (((20 : Nat) : Int) < (L.length : Int)) = true := by simp; omega
        have hd2 : decide (20 < L.length) = true := by simp; omega
        go_wp2_with fail
        refine bodyPost_ret (v := .tuple #[.agg #[.slice p l.length c], .bool true]) ?_ rfl ⟨p, c, l, rfl, hDN, ?_, ?_⟩
        · rw [results_cell_tmp rfl]
          go_simp
        · exact (HR.out.setCell (by show w.heap.size < bd + 1; omega) _).mono (by omega)
        · exact hb.setCell (Nat.le_refl _) _
      · have hd1 : decide ((i : Int) < (L.length : Int)) = false := by simp; omega
        have hd2 : decide (i < L.length) = false := by simp; omega
        go_wp2_with fail
        refine bodyPost_ret (v := .tuple #[.agg #[.slice p l.length c], .bool true]) ?_ rfl ⟨p, c, l, rfl, hDN, ?_, ?_⟩
        · rw [results_cell_tmp rfl]
          go_simp
        · exact (HR.out.setCell (by show w.heap.size < bd + 1; omega) _).mono (by omega)
        · exact hb.setCell (Nat.le_refl _) _
end Go.Proofs.Ytmadpjmlcooinaa
