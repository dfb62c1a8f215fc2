/- The walk of the law StoreBack. -/
import Derived.Test.YtcaolnpkpialdaaOpenOk
import Derived.Test.YtcaolnpkpialdaaMade
import Derived.Test.YtcaolnpkpialdaaSameHops
import Derived.Deep.RegionHeld3
import Derived.IntWalk
namespace Go.Proofs.Ytcaolnpkpialdaa
open Go.RowKit Go.Sort Go.Proofs
set_option linter.unusedVariables false in
set_option maxHeartbeats 16000000 in
set_option maxRecDepth 100000 in
theorem storeBack_walk (w : World) (n : Int) (hn0 : -9223372036854775808 ≤ n) (hn1 : n ≤ 9223372036854775807) (v1 : Value) (raw : List (List Int)) (h1 : IsR 3 w v1 raw) (x : Int) (hx0 : -9223372036854775808 ≤ x) (hx1 : x ≤ 9223372036854775807) (y : Int) (hy0 : -9223372036854775808 ≤ y) (hy1 : y ≤ 9223372036854775807) :
    Calls Try.prog 9 #[.int .i64 n, v1, .int .i64 x, .int .i64 y] w fun e w' => e = .returned (.bool true) ∧ Below w.heap.size w w' := by
  obtain ⟨p1, c1, rfl⟩ := h1.val
  have HMA := Lib.hid (made_ok n p1 c1 _ raw 8 w hn0 hn1 h1 (by omega) (by omega))
  have hNa := pickN_lt n (m := 8) (by omega)
  have hEl := edgesL_len (1 + pickN n 8) raw
  have hEG := edgesL_in (1 + pickN n 8) raw (by omega)
  have HPX := Lib.hid (fun w' => picked_i x 4 4 w' rfl hx0 hx1 (by omega) (by omega))
  have hxa := pickN_lt x (m := 4) (by omega)
  generalize edgesL (1 + pickN n 8) raw = E at *
  obtain ⟨N, hN⟩ : ∃ N, N = 1 + pickN n 8 := ⟨_, rfl⟩
  rw [← hN] at HMA hEG
  have hN1 : 1 ≤ N := by omega
  have hN8 : N ≤ 8 := by omega
  clear hN hNa
  generalize pickN x 4 = kx at *
  have hW1 : ((1 + kx : Nat) : Int) = 1 + (kx : Int) := by omega
  have HPY := Lib.hid (fun w' => picked_i y (1 + (kx : Int)) (1 + kx) w' (by omega) hy0 hy1 (by omega) (by omega))
  have hwa := pickN_lt y (m := 1 + kx) (by omega)
  generalize pickN y (1 + kx) = w0 at *
  obtain ⟨ne, hne⟩ : ∃ ne, ne = E.length := ⟨_, rfl⟩
  have hE10 : E.length ≤ 10 := hEl
  rw [← hne] at HMA hEl
  have HREV := Lib.hid (fun (V : World) (q : Option Addr) (d : Nat) (h : Sl V 3 (.slice q ne d) ne (ecs E)) => reverseG_ok N ne d q E V h hEG (by omega) (by omega))
  have HBU := Lib.hid (fun (V : World) (q : Option Addr) (d : Nat) (h : Sl V 3 (.slice q ne d) ne (ecs E)) => (show Calls Try.prog 28 #[.agg #[.int .i64 (N : Int), .slice q ne d], .int .i64 (w0 : Int), .int .i64 (1 + (kx : Int))] V fun e w' => ∃ p' c', e = .returned (.tuple #[.slice p' (wrapL (partL w0 (1 + kx) N E)).length c', .int .i64 0]) ∧ w'.ownsRow V.heap.size 5 1 (.slice p' (wrapL (partL w0 (1 + kx) N E)).length c') (wrapL (partL w0 (1 + kx) N E)).length (bys (wrapL (partL w0 (1 + kx) N E))) ∧ Below V.heap.size V w' from by
    have := build_ok N ne d w0 (1 + kx) q E V h hEG hN8 hEl hwa (by omega)
    rw [hW1] at this
    exact this))
  have HOP := Lib.hid (fun (V : World) (q : Option Addr) (m d : Nat) (h : IsB V (.slice q m d) (wrapL (partL w0 (1 + kx) N E))) => (show Calls Try.prog 29 #[.slice q m d] V fun e w' => ∃ p1 c1 p2 c2, e = .returned (.tuple #[.agg #[.int .i64 (w0 : Int), .int .i64 (1 + (kx : Int)), .int .i64 (N : Int), .slice p1 (cntV w0 N (1 + kx)) c1, .slice p2 (cntV w0 N (1 + kx)) c2], .int .i64 0]) ∧ IsRR mcs 2 List.length w' (.slice p1 (cntV w0 N (1 + kx)) c1) ((mineN w0 N (1 + kx)).map (outH E)) ∧ IsRR mcs 2 List.length w' (.slice p2 (cntV w0 N (1 + kx)) c2) ((mineN w0 N (1 + kx)).map (inH E)) ∧ Below V.heap.size V w' from by
    have := open_ok q d m w0 (1 + kx) N E V h hEG hE10 hN8 hwa (by omega)
    rw [hW1] at this
    exact this))
  have HMI := Lib.hid (fun (V : World) => (show Calls Try.prog 30 #[.int .i64 (w0 : Int), .int .i64 (N : Int), .int .i64 (1 + (kx : Int))] V fun e w' => ∃ p c, e = .returned (.tuple #[.slice p (cntV w0 N (1 + kx)) c, .int .i64 0]) ∧ w'.ownsRow V.heap.size 3 1 (.slice p (cntV w0 N (1 + kx)) c) (cntV w0 N (1 + kx)) (nts (mineN w0 N (1 + kx))) ∧ Below V.heap.size V w' from by
    have := mine_any w0 N (1 + kx) V hwa (by omega) (by omega)
    rw [hW1, show mineL w0 N (1 + kx) = vsI (mineN w0 N (1 + kx)) from mineN_int _ _ _, its_nts] at this
    exact this))
  have HHO := Lib.hid (fun (v : Nat) (hv : v < N) (V : World) (q : Option Addr) (d : Nat) (h : Sl V 3 (.slice q ne d) ne (ecs E)) => (show Calls Try.prog 31 #[.agg #[.int .i64 (N : Int), .slice q ne d], .int .i64 (v : Int)] V fun e w' => ∃ p' c', e = .returned (.tuple #[.slice p' (outH E v).length c', .int .i64 0]) ∧ w'.ownsRow V.heap.size 104 2 (.slice p' (outH E v).length c') (outH E v).length (mcs (outH E v)) ∧ Below V.heap.size V w' from hopsG_ok N ne d v q E V h hEG (by omega) (by omega) hv))
  have HHI := Lib.hid (fun (v : Nat) (hv : v < N) (V : World) (q : Option Addr) (d : Nat) (h : Sl V 3 (.slice q ne d) ne (ecs (srt cfE (revL E)))) => (show Calls Try.prog 31 #[.agg #[.int .i64 (N : Int), .slice q ne d], .int .i64 (v : Int)] V fun e w' => ∃ p' c', e = .returned (.tuple #[.slice p' (inH E v).length c', .int .i64 0]) ∧ w'.ownsRow V.heap.size 104 2 (.slice p' (inH E v).length c') (inH E v).length (mcs (inH E v)) ∧ Below V.heap.size V w' from hopsG_ok N ne d v q (srt cfE (revL E)) V h hEG.rev.srt (by omega) (by omega) hv))
  have HWB := Lib.hid (show AllB (wrapL (partL w0 (1 + kx) N E)) from wrapL_bytes (inkS_bytes _ _ _ _ _ _))
  have HMLT := Lib.hid (mineN_lt (w := w0) (N := N) (W := 1 + kx) (by omega))
  obtain ⟨ct, hct⟩ : ∃ ct, ct = cntV w0 N (1 + kx) := ⟨_, rfl⟩
  have hctN : ct ≤ N := by rw [hct]; exact cntV_leN (by omega)
  have HCT := Lib.hid (show ct = (mineN w0 N (1 + kx)).length from by rw [mineN_len]; exact hct)
  rw [← hct] at HOP HMI
  generalize wrapL (partL w0 (1 + kx) N E) = f at *
  generalize mineN w0 N (1 + kx) = vs at *
  generalize outH E = fo at *
  generalize inH E = fi at *
  generalize srt cfE (revL E) = R at *
  have hw4 : kx < 4 := hxa
  clear hct hne h1 hn0 hn1 hx0 hx1 hy0 hy1 hEG hEl hE10 hW1
  go_enter Try.func9, Try.ntmps9
  go_wp2_with fail
  refine HMA.out.mono ?_; rintro e w1 ⟨q1, d1, rfl, ho1, hb1⟩
  have HS1 := Lib.hid (Sl.of_own ho1)
  have HB1 := Lib.hid hb1
  obtain ⟨b2, B2, z2⟩ := boxed0 w1 [.int .i64 (N : Int), .slice q1 ne d1] 25
  have HX2 := Lib.hid B2
  have HS2 := Lib.hid (HS1.out.later b2)
  have HB2 := Lib.hid (HB1.out.trans (b2.mono HB1.out.size))
  obtain ⟨hx0, hx1, _, _⟩ := B2.two
  clear ho1 hb1 b2 B2 z2 HS1 HB1
  go_wp2_with fail
  refine (HPX.out _).mono ?_; rintro e wn ⟨rfl, rfl⟩
  go_wp2_with fail
  refine (HPY.out _).mono ?_; rintro e wn ⟨rfl, rfl⟩
  go_wp2_with fail
  obtain ⟨ga, hga⟩ : ∃ ga, ga = w1.heap.size := ⟨_, rfl⟩
  rw [← hga] at HX2 hx0 hx1 ⊢
  generalize (w1.alloc (.cells #[.int .i64 (N : Int), .slice q1 ne d1] 25)) = w2 at *
  clear hga
  refine (HREV.out _ _ _ HS2.out).mono ?_; rintro e w3 ⟨q3, d3, rfl, ho3, hb3⟩
  have HX3 := Lib.hid (HX2.out.next hb3)
  have HS3 := Lib.hid (HS2.out.later hb3)
  have HR3 := Lib.hid (Sl.of_own ho3)
  have HB3 := Lib.hid (HB2.out.trans (hb3.mono HB2.out.size))
  obtain ⟨b4, B4, z4⟩ := boxed0 w3 [.int .i64 (N : Int), .slice q3 ne d3] 25
  have HX4 := Lib.hid (HX3.out.next b4)
  have HY4 := Lib.hid B4
  have HS4 := Lib.hid (HS3.out.later b4)
  have HR4 := Lib.hid (HR3.out.later b4)
  have HB4 := Lib.hid (HB3.out.trans (b4.mono HB3.out.size))
  clear hx0 hx1 ho3 hb3 b4 B4 z4 HX2 HS2 HB2 HX3 HS3 HR3 HB3
  obtain ⟨hx0, hx1, _, _⟩ := HX4.out.two
  go_wp2_with fail
  obtain ⟨gb, hgb⟩ : ∃ gb, gb = w3.heap.size := ⟨_, rfl⟩
  rw [← hgb] at HY4 ⊢
  generalize (w3.alloc (.cells #[.int .i64 (N : Int), .slice q3 ne d3] 25)) = w4 at *
  clear hgb
  refine (HBU.out _ _ _ HS4.out).mono ?_; rintro e w5 ⟨q5, d5, rfl, ho5, hb5⟩
  have HX5 := Lib.hid (HX4.out.next hb5)
  have HY5 := Lib.hid (HY4.out.next hb5)
  have HS5 := Lib.hid (HS4.out.later hb5)
  have HR5 := Lib.hid (HR4.out.later hb5)
  have HF5 := Lib.hid (IsB.of_own ho5 HWB.out)
  have HB5 := Lib.hid (HB4.out.trans (hb5.mono HB4.out.size))
  clear hx0 hx1 ho5 hb5 HX4 HY4 HS4 HR4 HB4
  go_wp2_with fail
  refine (HOP.out _ _ _ _ HF5.out).mono ?_; rintro e w6 ⟨r1, e1, r2, e2, rfl, hr1, hr2, hb6⟩
  have HX6 := Lib.hid (HX5.out.next hb6)
  have HY6 := Lib.hid (HY5.out.next hb6)
  have HS6 := Lib.hid (HS5.out.later hb6)
  have HR6 := Lib.hid (HR5.out.later hb6)
  have HB6 := Lib.hid (HB5.out.trans (hb6.mono HB5.out.size))
  obtain ⟨b7, B7, z7⟩ := boxed0 w6 [.int .i64 (w0 : Int), .int .i64 (1 + (kx : Int)), .int .i64 (N : Int), .slice r1 ct e1, .slice r2 ct e2] 71
  have HX7 := Lib.hid (HX6.out.next b7)
  have HY7 := Lib.hid (HY6.out.next b7)
  have HZ7 := Lib.hid B7
  have HS7 := Lib.hid (HS6.out.later b7)
  have HR7 := Lib.hid (HR6.out.later b7)
  have HO7 := Lib.hid (hr1.later b7)
  have HI7 := Lib.hid (hr2.later b7)
  have HB7 := Lib.hid (HB6.out.trans (b7.mono HB6.out.size))
  clear hr1 hr2 hb6 b7 B7 z7 HX5 HY5 HS5 HR5 HF5 HB5 HX6 HY6 HS6 HR6 HB6
  obtain ⟨hx0, hx1, _, _⟩ := HX7.out.two
  go_wp2_with fail
  obtain ⟨gp, hgp⟩ : ∃ gp, gp = w6.heap.size := ⟨_, rfl⟩
  rw [← hgp] at HZ7 ⊢
  generalize (w6.alloc (.cells #[.int .i64 (w0 : Int), .int .i64 (1 + (kx : Int)), .int .i64 (N : Int), .slice r1 ct e1, .slice r2 ct e2] 71)) = w7 at *
  clear hgp
  refine (HMI.out _).mono ?_; rintro e w8 ⟨q8, d8, rfl, ho8, hb8⟩
  have HX8 := Lib.hid (HX7.out.next hb8)
  have HY8 := Lib.hid (HY7.out.next hb8)
  have HZ8 := Lib.hid (HZ7.out.next hb8)
  have HS8 := Lib.hid (HS7.out.later hb8)
  have HR8 := Lib.hid (HR7.out.later hb8)
  have HO8 := Lib.hid (HO7.out.later hb8)
  have HI8 := Lib.hid (HI7.out.later hb8)
  have HM8 := Lib.hid (Sl.of_own ho8)
  have HB8 := Lib.hid (HB7.out.trans (hb8.mono HB7.out.size))
  clear hx0 hx1 ho8 hb8 HX7 HY7 HZ7 HS7 HR7 HO7 HI7 HB7
  obtain ⟨hx0, hx1, _, _⟩ := HX8.out.two
  obtain ⟨hz0, hz1, hz2, hz3, hz4⟩ := HZ8.out.five
  have k1 : ((w0 : Int) != (w0 : Int)) = false := by simp
  have k2 : ((1 + (kx : Int)) != (1 + (kx : Int))) = false := by simp
  have k3 : ((N : Int) != (N : Int)) = false := by simp
  have k4 : ((ct : Int) != (ct : Int)) = false := by simp
  go_wp2_with fail
  clear hx0 hx1 hz0 hz1 hz2 hz3 hz4 k1 k2 k3 k4
  go_loopg [20] ct (fun gk v20 wr => ∃ k : Nat, v20 = .int .i64 (k : Int) ∧ k + gk = ct ∧ Below w8.heap.size w8 wr)
  case atStart => exact ⟨0, rfl, by omega, Below.refl _ _⟩
  case round =>
    obtain ⟨k, rfl, hgk, hb⟩ := hrel
    have HGK := Lib.hid hgk
    have hk : k ≤ ct := by omega
    have HB := Lib.hid hb
    clear hgk hb
    by_cases hlt : k < ct
    · have hkl : k < vs.length := by have := HCT.out; omega
      obtain ⟨b9, off9, rfl, hm0⟩ := (HM8.out.later HB.out).get (nts_at hkl)
      obtain ⟨hdm1, hdm2⟩ : ct ≤ d8 ∧ d8 ≤ 9223372036854775807 := by
        obtain ⟨p', c', hp, h1, h2, h3, _⟩ := HM8.out
        cases hp
        exact ⟨h1, by unfold maxLen at h2; omega⟩
      have hv := HMLT.out _ (List.getElem_mem hkl)
      have hl1 : k < (vs.map fo).length := by rw [List.length_map]; exact hkl
      have hl2 : k < (vs.map fi).length := by rw [List.length_map]; exact hkl
      obtain ⟨bo, oo, qo, do_, rfl, hco, hso⟩ := (HO8.out.later HB.out).get hl1
      obtain ⟨bi, oi, qi, di, rfl, hci, hsi⟩ := (HI8.out.later HB.out).get hl2
      obtain ⟨-, hoc1, hoc2⟩ := HO8.out.lens
      obtain ⟨-, hic1, hic2⟩ := HI8.out.lens
      rw [List.getElem_map] at hco hso hci hsi
      generalize vs[k] = v at hm0 hv hco hso hci hsi
      have HHov := Lib.hid (HHO.out v hv)
      have HHiv := Lib.hid (HHI.out v hv)
      generalize fo v = lo at *
      generalize fi v = li at *
      have HKP := Lib.hid (fun (V : World) (hV : Below wr.heap.size wr V) => (show V.cell? ⟨b9, off9 + k, none⟩ = some (.int .i64 (v : Int)) ∧ V.cell? ⟨bo, oo + k, none⟩ = some (.slice qo lo.length do_) ∧ V.cell? ⟨bi, oi + k, none⟩ = some (.slice qi li.length di) ∧ Sl V 2 (.slice qo lo.length do_) lo.length (mcs lo) ∧ Sl V 2 (.slice qi li.length di) li.length (mcs li) ∧
        Bx V ga [.int .i64 (N : Int), .slice q1 ne d1] ∧ Bx V gb [.int .i64 (N : Int), .slice q3 ne d3] ∧ Bx V gp [.int .i64 (w0 : Int), .int .i64 (1 + (kx : Int)), .int .i64 (N : Int), .slice (some ⟨bo, oo, none⟩) ct e1, .slice (some ⟨bi, oi, none⟩) ct e2] ∧ Sl V 3 (.slice q1 ne d1) ne (ecs E) ∧ Sl V 3 (.slice q3 ne d3) ne (ecs R) from
        ⟨(hV.cell (p := ⟨b9, off9 + k, none⟩) (World.block_lt_of_cell? wr _ hm0)).trans hm0, (hV.cell (p := ⟨bo, oo + k, none⟩) (World.block_lt_of_cell? wr _ hco)).trans hco, (hV.cell (p := ⟨bi, oi + k, none⟩) (World.block_lt_of_cell? wr _ hci)).trans hci, hso.later hV, hsi.later hV,
          (HX8.out.next HB.out).next hV, (HY8.out.next HB.out).next hV, (HZ8.out.next HB.out).next hV, (HS8.out.later HB.out).later hV, (HR8.out.later HB.out).later hV⟩))
      have hk0 : (0 : Int) ≤ (k : Int) := by omega
      have hkn : (k : Int) < (ct : Int) := by omega
      have he1 : (k : Int) < (e1 : Int) := by omega
      have hd1 : decide ((k : Int) < (ct : Int)) = true := by simp; omega
      have hd2 : decide (k < ct) = true := by simp; omega
      clear hlt hm0 hco hci hso hsi
      go_upto_region 13 with fail
      obtain ⟨hm, -, -, -, -, hA, -, -, hSE, -⟩ := HKP.out wr (Below.refl _ _)
      obtain ⟨hx0, hx1, _, _⟩ := hA.two
      go_region_held3 (fun w' => w'.cell? ⟨ga, 0, none⟩ = some (Value.int .i64 (N : Int)) ∧ w'.cell? ⟨ga, 1, none⟩ = some (Value.slice q1 ne d1) ∧ w'.cell? ⟨b9, off9 + k, none⟩ = some (Value.int .i64 (v : Int)))
        (first | (exact ⟨hx0, hx1, hm⟩) | go_keep)
        ((go_at_call 31; refine (HHov.out _ _ _ (HKP.out _ (Below.refl _ wr).drew).2.2.2.2.2.2.2.2.1).mono ?_; rintro e wa ⟨pa, ca, rfl, hoa, hba⟩; have hca : Below wr.heap.size wr wa := (Below.refl _ wr).drew.trans hba; obtain ⟨hm, -, -, -, -, hA, -, -, -, -⟩ := HKP.out wa hca; obtain ⟨hx0, hx1, _, _⟩ := hA.two))
      have HSa := Lib.hid (Sl.of_own hoa)
      have HCa := Lib.hid hca
      clear hoa hba hx0 hx1 hm hA hSE
      go_upto_region 14 with fail
      obtain ⟨hm, -, -, -, -, -, hA, -, -, hSE⟩ := HKP.out wa HCa.out
      obtain ⟨hx0, hx1, _, _⟩ := hA.two
      go_region_held3 (fun w' => w'.cell? ⟨gb, 0, none⟩ = some (Value.int .i64 (N : Int)) ∧ w'.cell? ⟨gb, 1, none⟩ = some (Value.slice q3 ne d3) ∧ w'.cell? ⟨b9, off9 + k, none⟩ = some (Value.int .i64 (v : Int)))
        (first | (exact ⟨hx0, hx1, hm⟩) | go_keep)
        ((go_at_call 31; refine (HHiv.out _ _ _ (HKP.out _ HCa.out.drew).2.2.2.2.2.2.2.2.2).mono ?_; rintro e wb ⟨pb, cb, rfl, hob, hbb⟩; have hcb : Below wa.heap.size wa wb := (Below.refl _ wa).drew.trans hbb; have hcw : Below wr.heap.size wr wb := HCa.out.trans (hcb.mono HCa.out.size); obtain ⟨hm, -, -, -, -, -, hA, -, -, -⟩ := HKP.out wb hcw; obtain ⟨hx0, hx1, _, _⟩ := hA.two))
      have HSb := Lib.hid (Sl.of_own hob)
      have HSab := Lib.hid (HSa.out.later hcb)
      have HCb := Lib.hid hcw
      clear hob hbb hcb hcw hx0 hx1 hm hA hSE
      obtain ⟨-, hco, hci, hso, hsi, -, -, hP, -, -⟩ := HKP.out wb HCb.out
      have HSO := Lib.hid hso
      have HSI := Lib.hid hsi
      obtain ⟨hz0, hz1, hz2, hz3, hz4⟩ := hP.five
      clear hso hsi hP
      go_wp2_with (first
        | (go_at_call 32; with_reducible refine (sameHops_any _ _ _ _ _ _ _ _ _ HSab.out HSO.out rfl).mono ?_; rintro e wc ⟨rfl, hbc⟩; have HCc := Lib.hid (HCb.out.trans (hbc.mono HCb.out.size)); have HSc := Lib.hid (HSb.out.later hbc); obtain ⟨-, hco, hci, hso, hsi, -, -, hP, -, -⟩ := HKP.out wc HCc.out; have HSI2 := Lib.hid hsi; obtain ⟨hz0, hz1, hz2, hz3, hz4⟩ := hP.five; clear hso hsi hP)
        | (go_at_call 32; with_reducible refine (sameHops_any _ _ _ _ _ _ _ _ _ HSc.out HSI2.out rfl).mono ?_; rintro e wd ⟨rfl, hbd⟩))
      go_roundg (ct - (k + 1))
      case measure => have := HGK.out; omega
      case rel => exact ⟨k + 1, by go_num, by omega, HB.out.trans ((HCc.out.trans (hbd.mono HCc.out.size)).mono HB.out.size)⟩
    · have hd1 : decide ((k : Int) < (ct : Int)) = false := by simp; omega
      have hd2 : decide (k < ct) = false := by simp; omega
      go_wp2_with fail
      go_ret
      exact ⟨rfl, HB8.out.trans (HB.out.mono HB8.out.size)⟩
end Go.Proofs.Ytcaolnpkpialdaa
