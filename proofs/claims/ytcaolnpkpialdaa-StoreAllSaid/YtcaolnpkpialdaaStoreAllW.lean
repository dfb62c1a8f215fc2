/- The walk of the law StoreAll. -/
import Derived.Test.YtcaolnpkpialdaaOpenOk
import Derived.Test.YtcaolnpkpialdaaMade
import Derived.Test.YtcaolnpkpialdaaPStoreAll
import Derived.IntWalk
namespace Go.Proofs.Ytcaolnpkpialdaa
open Go.RowKit Go.Sort Go.Proofs
/-- the first rows' lengths -/
def lenT (f : Nat → List (Nat × Nat)) (vs : List Nat) (j : Nat) : Nat := ((vs.take j).map fun v => (f v).length).sum
theorem lenT_succ (f : Nat → List (Nat × Nat)) {vs : List Nat} {j : Nat} (h : j < vs.length) : lenT f vs (j + 1) = lenT f vs j + (f vs[j]).length := by
  unfold lenT; rw [List.take_succ_eq_append_getElem h, List.map_append, List.sum_append]; simp
theorem lenT_le (f : Nat → List (Nat × Nat)) (hf : ∀ v, (f v).length ≤ 10) (vs : List Nat) : ∀ j, lenT f vs j ≤ 10 * j := by
  intro j
  induction j with
  | zero => exact Nat.le_refl _
  | succ j ih =>
    by_cases h : j < vs.length
    · rw [lenT_succ f h]; have := hf vs[j]; omega
    · unfold lenT at *
      rw [List.take_of_length_le (by omega)] at ih ⊢
      omega
theorem lenT_all (f : Nat → List (Nat × Nat)) (w N W : Nat) : lenT f (mineN w N W) (cntV w N W) = sumW (fun v => (f v).length) w N W := by
  unfold lenT sumW
  rw [List.take_of_length_le (by rw [mineN_len]; exact Nat.le_refl _)]
set_option linter.unusedVariables false in
set_option maxHeartbeats 16000000 in
set_option maxRecDepth 100000 in
theorem storeAll_walk (w : World) (n : Int) (hn0 : -9223372036854775808 ≤ n) (hn1 : n ≤ 9223372036854775807) (v1 : Value) (raw : List (List Int)) (h1 : IsR 3 w v1 raw) (x : Int) (hx0 : -9223372036854775808 ≤ x) (hx1 : x ≤ 9223372036854775807) :
    Calls Try.prog 10 #[.int .i64 n, v1, .int .i64 x] w fun e w' => e = .returned (.bool true) ∧ Below w.heap.size w w' := by
  obtain ⟨p1, c1, rfl⟩ := h1.val
  have HMA := Lib.hid (made_ok n p1 c1 _ raw 8 w hn0 hn1 h1 (by omega) (by omega))
  have hNa := pickN_lt n (m := 8) (by omega)
  have hEl := edgesL_len (1 + pickN n 8) raw
  have hEG := edgesL_in (1 + pickN n 8) raw (by omega)
  have HPX := Lib.hid (fun w' => picked_i x 4 4 w' rfl hx0 hx1 (by omega) (by omega))
  have hxa := pickN_lt x (m := 4) (by omega)
  generalize edgesL (1 + pickN n 8) raw = E at *
  obtain ⟨N, hN⟩ : ∃ N, N = 1 + pickN n 8 := ⟨_, rfl⟩
  rw [← hN] at HMA hEG
  have hN1 : 1 ≤ N := by omega
  have hN8 : N ≤ 8 := by omega
  clear hN hNa
  generalize pickN x 4 = kx at *
  have hW1 : ((1 + kx : Nat) : Int) = 1 + (kx : Int) := by omega
  obtain ⟨ne, hne⟩ : ∃ ne, ne = E.length := ⟨_, rfl⟩
  have hE10 : E.length ≤ 10 := hEl
  rw [← hne] at HMA hEl
  have HBU := Lib.hid (fun (w0 : Nat) (hw : w0 < 1 + kx) (V : World) (q : Option Addr) (d : Nat) (h : Sl V 3 (.slice q ne d) ne (ecs E)) => (show Calls Try.prog 28 #[.agg #[.int .i64 (N : Int), .slice q ne d], .int .i64 (w0 : Int), .int .i64 (1 + (kx : Int))] V fun e w' => ∃ p' c', e = .returned (.tuple #[.slice p' (wrapL (partL w0 (1 + kx) N E)).length c', .int .i64 0]) ∧ w'.ownsRow V.heap.size 5 1 (.slice p' (wrapL (partL w0 (1 + kx) N E)).length c') (wrapL (partL w0 (1 + kx) N E)).length (bys (wrapL (partL w0 (1 + kx) N E))) ∧ Below V.heap.size V w' from by
    have := build_ok N ne d w0 (1 + kx) q E V h hEG hN8 hEl hw (by omega)
    rw [hW1] at this
    exact this))
  have HOP := Lib.hid (fun (w0 : Nat) (hw : w0 < 1 + kx) (V : World) (q : Option Addr) (m d : Nat) (h : IsB V (.slice q m d) (wrapL (partL w0 (1 + kx) N E))) => (show Calls Try.prog 29 #[.slice q m d] V fun e w' => ∃ p1 c1 p2 c2, e = .returned (.tuple #[.agg #[.int .i64 (w0 : Int), .int .i64 (1 + (kx : Int)), .int .i64 (N : Int), .slice p1 (cntV w0 N (1 + kx)) c1, .slice p2 (cntV w0 N (1 + kx)) c2], .int .i64 0]) ∧ IsRR mcs 2 List.length w' (.slice p1 (cntV w0 N (1 + kx)) c1) ((mineN w0 N (1 + kx)).map (outH E)) ∧ IsRR mcs 2 List.length w' (.slice p2 (cntV w0 N (1 + kx)) c2) ((mineN w0 N (1 + kx)).map (inH E)) ∧ Below V.heap.size V w' from by
    have := open_ok q d m w0 (1 + kx) N E V h hEG hE10 hN8 hw (by omega)
    rw [hW1] at this
    exact this))
  have HWB := Lib.hid (fun (w0 : Nat) => (show AllB (wrapL (partL w0 (1 + kx) N E)) from wrapL_bytes (inkS_bytes _ _ _ _ _ _)))
  have HLO := Lib.hid (fun v => (outH_ok hEG hE10 v).len)
  have HLI := Lib.hid (fun v => (inH_ok hEG hE10 v).len)
  have HSO := Lib.hid (show sumWs (fun v => (outH E v).length) N (1 + kx) (1 + kx) = ne from by rw [hne]; exact out_sum hEG (by omega))
  have HSI := Lib.hid (show sumWs (fun v => (inH E v).length) N (1 + kx) (1 + kx) = ne from by rw [hne]; exact in_sum hEG (by omega))
  have HSC := Lib.hid (show sumWs (fun _ => 1) N (1 + kx) (1 + kx) = N from cnt_sum N (1 + kx) (by omega))
  have HCT := Lib.hid (fun w0 => (mineN_len w0 N (1 + kx)))
  have HCN := Lib.hid (fun w0 => (cntV_leN (w := w0) (N := N) (W := 1 + kx) (by omega)))
  generalize outH E = fo at *
  generalize inH E = fi at *
  have hw4 : kx < 4 := hxa
  clear hne h1 hn0 hn1 hx0 hx1 hEG hEl hE10 hW1
  go_enter Try.func10, Try.ntmps10
  go_wp2_with fail
  refine HMA.out.mono ?_; rintro e w1 ⟨q1, d1, rfl, ho1, hb1⟩
  have HS1 := Lib.hid (Sl.of_own ho1)
  have HB1 := Lib.hid hb1
  obtain ⟨b2, B2, z2⟩ := boxed0 w1 [.int .i64 (N : Int), .slice q1 ne d1] 25
  have HX2 := Lib.hid B2
  have HS2 := Lib.hid (HS1.out.later b2)
  have HB2 := Lib.hid (HB1.out.trans (b2.mono HB1.out.size))
  clear ho1 hb1 b2 B2 z2 HS1 HB1
  go_wp2_with fail
  refine (HPX.out _).mono ?_; rintro e wn ⟨rfl, rfl⟩
  go_wp2_with fail
  obtain ⟨ga, hga⟩ : ∃ ga, ga = w1.heap.size := ⟨_, rfl⟩
  rw [← hga] at HX2 ⊢
  generalize (w1.alloc (.cells #[.int .i64 (N : Int), .slice q1 ne d1] 25)) = w2 at *
  clear hga
  go_loopg [9, 10, 11, 12] (1 + kx) (fun gk v9 v10 v11 v12 wr => ∃ k so si sm : Nat, v9 = .int .i64 (so : Int) ∧ v10 = .int .i64 (si : Int) ∧ v11 = .int .i64 (sm : Int) ∧ v12 = .int .i64 (k : Int) ∧ k + gk = 1 + kx ∧ so ≤ 100 * k ∧ si ≤ 100 * k ∧ sm ≤ 100 * k ∧ Hid (so = sumWs (fun v => (fo v).length) N (1 + kx) k) ∧ Hid (si = sumWs (fun v => (fi v).length) N (1 + kx) k) ∧ Hid (sm = sumWs (fun _ => 1) N (1 + kx) k) ∧ Below w2.heap.size w2 wr)
  case atStart => exact ⟨0, 0, 0, 0, rfl, rfl, rfl, rfl, by omega, by omega, by omega, by omega, Lib.hid rfl, Lib.hid rfl, Lib.hid rfl, Below.refl _ _⟩
  case round =>
    obtain ⟨k, so, si, sm, rfl, rfl, rfl, rfl, hgk, hso, hsi, hsm, HO, HI, HM, hb⟩ := hrel
    obtain ⟨wo, hwo⟩ : ∃ wo : World, wo = wr := ⟨_, rfl⟩
    rw [← hwo] at hb ⊢
    clear hwo
    have HGK := Lib.hid hgk
    have hk : k ≤ 1 + kx := by omega
    have HB := Lib.hid hb
    have HXo := Lib.hid (HX2.out.next hb)
    have HSo := Lib.hid (HS2.out.later hb)
    clear hgk hb
    obtain ⟨hx0, hx1, _, _⟩ := HXo.out.two
    by_cases hlt : k < 1 + kx
    · have hd1 : decide ((k : Int) < 1 + (kx : Int)) = true := by simp; omega
      have HBk := Lib.hid (HBU.out k hlt)
      have HOk := Lib.hid (HOP.out k hlt)
      have HWk := Lib.hid (HWB.out k)
      have HCk := Lib.hid (HCT.out k)
      have hcn := HCN.out k
      have HTo := Lib.hid (lenT_all fo k N (1 + kx))
      have HTi := Lib.hid (lenT_all fi k N (1 + kx))
      have HT1 := Lib.hid (sumW_one k N (1 + kx))
      generalize wrapL (partL k (1 + kx) N E) = f at *
      generalize mineN k N (1 + kx) = vs at *
      generalize cntV k N (1 + kx) = ct at *
      have HKL := Lib.hid hlt
      clear hlt
      go_wp2_with fail
      refine (HBk.out _ _ _ HSo.out).mono ?_; rintro e w5 ⟨q5, d5, rfl, ho5, hb5⟩
      have HF5 := Lib.hid (IsB.of_own ho5 HWk.out)
      have HB5 := Lib.hid (HB.out.trans (hb5.mono HB.out.size))
      clear ho5 hb5 hx0 hx1
      go_wp2_with fail
      refine (HOk.out _ _ _ _ HF5.out).mono ?_; rintro e w6 ⟨r1, e1, r2, e2, rfl, hr1, hr2, hb6⟩
      have HB6 := Lib.hid (HB5.out.trans (hb6.mono HB5.out.size))
      obtain ⟨b7, B7, z7⟩ := boxed0 w6 [.int .i64 (k : Int), .int .i64 (1 + (kx : Int)), .int .i64 (N : Int), .slice r1 ct e1, .slice r2 ct e2] 71
      have HZ7 := Lib.hid B7
      have HO7 := Lib.hid (hr1.later b7)
      have HI7 := Lib.hid (hr2.later b7)
      have HB7 := Lib.hid (HB6.out.trans (b7.mono HB6.out.size))
      obtain ⟨-, hoc1, hoc2⟩ := hr1.lens
      obtain ⟨-, hic1, hic2⟩ := hr2.lens
      obtain ⟨hz0, hz1, hz2, hz3, hz4⟩ := B7.five
      clear hr1 hr2 hb6 b7 B7 z7 HB5 HB6 HF5
      have hsw : IntKind.i64.wrap ((sm : Int) + (ct : Int)) = (sm : Int) + (ct : Int) := IntWalk.i64_in _ (by omega)
      go_wp2_with fail
      obtain ⟨gp, hgp⟩ : ∃ gp, gp = w6.heap.size := ⟨_, rfl⟩
      rw [← hgp] at HZ7 ⊢
      generalize (w6.alloc (.cells #[.int .i64 (k : Int), .int .i64 (1 + (kx : Int)), .int .i64 (N : Int), .slice r1 ct e1, .slice r2 ct e2] 71)) = w7 at *
      clear hgp hz0 hz1 hz2 hz3 hz4
      go_loopg [9, 10, 17] ct (fun gk v9 v10 v17 wr => ∃ j a b : Nat, v9 = .int .i64 (a : Int) ∧ v10 = .int .i64 (b : Int) ∧ v17 = .int .i64 (j : Int) ∧ j + gk = ct ∧ Hid (a = so + lenT fo vs j) ∧ Hid (b = si + lenT fi vs j) ∧ Below w7.heap.size w7 wr)
      case atStart => exact ⟨0, so, si, rfl, rfl, rfl, by omega, Lib.hid rfl, Lib.hid rfl, Below.refl _ _⟩
      case round =>
        obtain ⟨j, a, b, rfl, rfl, rfl, hgk, HA, HBB, hb⟩ := hrel
        have HGJ := Lib.hid hgk
        have hj : j ≤ ct := by omega
        have ha : a ≤ 100 * k + 10 * j := by have h1 := HA.out; have h2 := lenT_le fo HLO.out vs j; omega
        have hbb : b ≤ 100 * k + 10 * j := by have h1 := HBB.out; have h2 := lenT_le fi HLI.out vs j; omega
        have HBJ := Lib.hid hb
        have HZj := Lib.hid (HZ7.out.next hb)
        clear hgk
        by_cases hlt : j < ct
        · have hjl : j < vs.length := by have := HCk.out; omega
          have hl1 : j < (vs.map fo).length := by rw [List.length_map]; exact hjl
          have hl2 : j < (vs.map fi).length := by rw [List.length_map]; exact hjl
          obtain ⟨bo, oo, qo, do_, rfl, hco, -⟩ := (HO7.out.later hb).get hl1
          obtain ⟨bi, oi, qi, di, rfl, hci, -⟩ := (HI7.out.later hb).get hl2
          rw [List.getElem_map] at hco hci
          have hlo := HLO.out vs[j]
          have hli := HLI.out vs[j]
          have HA2 := Lib.hid (lenT_succ fo hjl)
          have HB2' := Lib.hid (lenT_succ fi hjl)
          generalize (fo vs[j]).length = lo at *
          generalize (fi vs[j]).length = li at *
          obtain ⟨hz0, hz1, hz2, hz3, hz4⟩ := HZj.out.five
          have hj0 : (0 : Int) ≤ (j : Int) := by omega
          have hjn : (j : Int) < (ct : Int) := by omega
          have hd3 : decide ((j : Int) < (ct : Int)) = true := by simp; omega
          have hd4 : decide (j < ct) = true := by simp; omega
          have hw1 : IntKind.i64.wrap ((a : Int) + (lo : Int)) = (a : Int) + (lo : Int) := IntWalk.i64_in _ (by omega)
          have hw2 : IntKind.i64.wrap ((b : Int) + (li : Int)) = (b : Int) + (li : Int) := IntWalk.i64_in _ (by omega)
          clear hlt hb
          go_wp2_with fail
          go_roundg (ct - (j + 1))
          case measure => have := HGJ.out; omega
          case rel => exact ⟨j + 1, a + lo, b + li, by go_num, by go_num, by go_num, by omega, Lib.hid (by rw [HA2.out, HA.out]; omega), Lib.hid (by rw [HB2'.out, HBB.out]; omega), HBJ.out⟩
        · obtain rfl : ct = j := by omega
          have hd3 : decide ((ct : Int) < (ct : Int)) = false := by simp
          have hd4 : decide (ct < ct) = false := by simp
          obtain ⟨hz0, hz1, hz2, hz3, hz4⟩ := HZj.out.five
          clear hlt hb
          go_wp2_with fail
          go_roundg (1 + kx - (k + 1))
          case measure => have := HGK.out; have := HKL.out; omega
          case rel => exact ⟨k + 1, a, b, sm + ct, rfl, rfl, by go_num, by go_num, by have := HKL.out; omega, by omega, by omega, by omega, Lib.hid (by rw [sumWs_succ, ← HO.out, ← HTo.out]; exact HA.out), Lib.hid (by rw [sumWs_succ, ← HI.out, ← HTi.out]; exact HBB.out), Lib.hid (by rw [sumWs_succ, ← HM.out, HT1.out]), HB7.out.trans (HBJ.out.mono HB7.out.size)⟩
    · obtain rfl : k = 1 + kx := by omega
      have hd1 : decide (((1 + kx : Nat) : Int) < 1 + (kx : Int)) = false := by simp
      have e1 : so = ne := HO.out.trans HSO.out
      have e2 : si = ne := HI.out.trans HSI.out
      have e3 : sm = N := HM.out.trans HSC.out
      subst e1
      subst e2
      subst e3
      clear hlt
      go_wp2_with fail
      go_ret
      exact ⟨rfl, HB2.out.trans (HB.out.mono HB2.out.size)⟩
end Go.Proofs.Ytcaolnpkpialdaa
