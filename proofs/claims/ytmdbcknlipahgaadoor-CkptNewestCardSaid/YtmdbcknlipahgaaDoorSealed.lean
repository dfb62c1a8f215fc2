/- The walk of pacelinekeep.sealed: a disk with two things sealed. Printed by genseal.py. -/
import Derived.Test.YtmdbcknlipahgaaDoorCkU
import Derived.Test.YtmdbcknlipahgaaDoorSameSv
import Derived.BigRegion
namespace Go.Proofs.YtmdbcknlipahgaaDoor
open Go.RowKit Go.Sort Go.Proofs
theorem IsKp.val {w : World} {v : Value} {x : KeptR} (h : IsKp w v x) : ∃ p3 c3 p4 c4, v = .agg #[.int .i64 x.step, .int .i64 x.phase, .bool x.fresh, .slice p3 x.values.length c3, .slice p4 x.mail.length c4] := by
  obtain ⟨v3, v4, rfl, h3, h4, -, -⟩ := h
  obtain ⟨p3, c3, rfl⟩ := h3.val
  obtain ⟨p4, c4, rfl⟩ := h4.val
  exact ⟨p3, c3, p4, c4, rfl⟩
/-- the disk with two things sealed -/
def twoF (n : Nat) (x y : KeptR) : List Fl := [whF (svN n) (encK x), whF (svN (1 - n)) (encK y)]
set_option maxHeartbeats 8000000 in
set_option maxRecDepth 100000 in
theorem sealed_ok (w : World) (v0 v1 : Value) (x y : KeptR) (h0 : IsKp w v0 x) (h1 : IsKp w v1 y) (a : Int) (h20 : -9223372036854775808 ≤ a) (h21 : a ≤ 9223372036854775807) :
    Calls Tryd.prog 26 #[v0, v1, .int .i64 a] w fun e w' => ∃ p c, e = .returned (.tuple #[.agg #[.slice p 2 c], .bool true]) ∧ IsD w' w.heap.size (.slice p 2 c) (twoF (pickN a 2) x y) ∧ Below w.heap.size w w' := by
  have HKX := Lib.hid (fun (W : World) (hW : Below w.heap.size w W) => kept_ok v0 x W (h0.later hW))
  have HKY := Lib.hid (fun (W : World) (hW : Below w.heap.size w W) => kept_ok v1 y W (h1.later hW))
  have HP1 := Lib.hid (fun W => picked_i a 2 2 W rfl h20 h21 (by omega) (by omega))
  have hn := pickN_lt a (m := 2) (by omega)
  unfold twoF
  generalize pickN a 2 = n at *
  have hnm := nm3_of n hn
  have hw0 := flOk_wh hnm.oka (encK_allB x) (by have := encK_len x; omega)
  have hn0 := flOk_nw hnm.okx (encK_allB x) (by have := encK_len x; omega)
  have hn1 := flOk_nw hnm.okx (encK_allB y) (by have := encK_len y; omega)
  have HPU := Lib.hid (fun (v : Value) (W : World) (h : IsSv W v (keptS x)) => (show Calls Tryd.prog 21 #[.agg #[.slice none 0 0], v] W (GivesD [nwF nxN (encK x)] W) from by
    have := putD (.slice none 0 0) v [] x W h ⟨[], rfl, RDk.nil W 0⟩ dk0 (by simp)
    rwa [ck_put0] at this))
  have HSE := Lib.hid (fun (v : Value) (W : World) (h : IsD W 0 v [nwF nxN (encK x)]) => (show Calls Tryd.prog 22 #[.agg #[v], .int .i64 (n : Int)] W (GivesD [whF (svN n) (encK x)] W) from by
    have := sealD n hn v _ W h (dk1 hn0) (by simp [ixF, nwF])
    rwa [ck_seal0 hnm] at this))
  have HPU2 := Lib.hid (fun (d v : Value) (W : World) (hd : IsD W 0 d [whF (svN n) (encK x)]) (h : IsSv W v (keptS y)) => (show Calls Tryd.prog 21 #[.agg #[d], v] W (GivesD [whF (svN n) (encK x), nwF nxN (encK y)] W) from by
    have := putD d v _ y W h hd (dk1 hw0) (by simp)
    rwa [ck_put1 hnm] at this))
  have HSE2 := Lib.hid (fun (v : Value) (W : World) (h : IsD W 0 v [whF (svN n) (encK x), nwF nxN (encK y)]) => (show Calls Tryd.prog 22 #[.agg #[v], .int .i64 ((1 - n : Nat) : Int)] W (GivesD [whF (svN n) (encK x), whF (svN (1 - n)) (encK y)] W) from by
    have := sealD (1 - n) (by omega) v _ W h (dk2 hw0 hn1 (by exact fun e => hnm.xa e.symm)) (by simp [ixF, nwF, whF, hnm.xa.symm])
    rwa [ck_seal1 hnm] at this))
  have hsub : IntKind.i64.wrap (1 - (n : Int)) = ((1 - n : Nat) : Int) := by
    rw [show ((1 - n : Nat) : Int) = 1 - (n : Int) by omega]
    exact IntWalk.i64_in _ (by omega)
  have hsub2 : (1 : Int) - (n : Int) = ((1 - n : Nat) : Int) := by omega
  have HSUB := Lib.hid hsub2
  obtain ⟨p3, c3, p4, c4, rfl⟩ := h0.val
  obtain ⟨q3, d3, q4, d4, rfl⟩ := h1.val
  clear h0 h1 h20 h21 hnm hw0 hn0 hn1 hsub hsub2
  generalize (1 - n : Nat) = n' at *
  generalize keptS x = s at *
  generalize keptS y = s' at *
  generalize encK x = B at *
  generalize encK y = B' at *
  generalize svN n = sv at *
  generalize svN n' = sv' at *
  obtain ⟨xs, xp, fr, raw, rawm⟩ := x
  obtain ⟨ys, yp, fr', raw', rawm'⟩ := y
  dsimp only at *
  obtain ⟨b1, B1, z1⟩ := boxed0 w [.int .i64 xs, .int .i64 xp, .bool fr, .slice p3 raw.length c3, .slice p4 rawm.length c4] 47
  have hs1 : (w.alloc (.cells #[.int .i64 xs, .int .i64 xp, .bool fr, .slice p3 raw.length c3, .slice p4 rawm.length c4] 47)).heap.size = w.heap.size + 1 := by simp
  obtain ⟨b2, B2, z2⟩ := boxed0 (w.alloc (.cells #[.int .i64 xs, .int .i64 xp, .bool fr, .slice p3 raw.length c3, .slice p4 rawm.length c4] 47)) [.int .i64 ys, .int .i64 yp, .bool fr', .slice q3 raw'.length d3, .slice q4 rawm'.length d4] 47
  have hs2 : ((w.alloc (.cells #[.int .i64 xs, .int .i64 xp, .bool fr, .slice p3 raw.length c3, .slice p4 rawm.length c4] 47)).alloc (.cells #[.int .i64 ys, .int .i64 yp, .bool fr', .slice q3 raw'.length d3, .slice q4 rawm'.length d4] 47)).heap.size = w.heap.size + 1 + 1 := by simp
  obtain ⟨b3, B3, z3⟩ := boxed0 ((w.alloc (.cells #[.int .i64 xs, .int .i64 xp, .bool fr, .slice p3 raw.length c3, .slice p4 rawm.length c4] 47)).alloc (.cells #[.int .i64 ys, .int .i64 yp, .bool fr', .slice q3 raw'.length d3, .slice q4 rawm'.length d4] 47)) [.slice none 0 0] 61
  have HC0 := Lib.hid ((b1.trans (b2.mono (by omega))).trans (b3.mono (by omega)))
  have X1 := (B1.next b2).next b3
  have X2 := B2.next b3
  rw [hs1] at X2
  have X3 := B3
  rw [hs2] at X3
  have HKB := Lib.hid (fun (W : World) (hW : Below (((w.alloc (.cells #[.int .i64 xs, .int .i64 xp, .bool fr, .slice p3 raw.length c3, .slice p4 rawm.length c4] 47)).alloc (.cells #[.int .i64 ys, .int .i64 yp, .bool fr', .slice q3 raw'.length d3, .slice q4 rawm'.length d4] 47)).alloc (.cells #[.slice none 0 0] 61)).heap.size (((w.alloc (.cells #[.int .i64 xs, .int .i64 xp, .bool fr, .slice p3 raw.length c3, .slice p4 rawm.length c4] 47)).alloc (.cells #[.int .i64 ys, .int .i64 yp, .bool fr', .slice q3 raw'.length d3, .slice q4 rawm'.length d4] 47)).alloc (.cells #[.slice none 0 0] 61)) W) => (⟨(X1.next hW).five, (X2.next hW).five⟩ : _ ∧ _))
  have HC1 := Lib.hid (Below.refl (((w.alloc (.cells #[.int .i64 xs, .int .i64 xp, .bool fr, .slice p3 raw.length c3, .slice p4 rawm.length c4] 47)).alloc (.cells #[.int .i64 ys, .int .i64 yp, .bool fr', .slice q3 raw'.length d3, .slice q4 rawm'.length d4] 47)).alloc (.cells #[.slice none 0 0] 61)).heap.size (((w.alloc (.cells #[.int .i64 xs, .int .i64 xp, .bool fr, .slice p3 raw.length c3, .slice p4 rawm.length c4] 47)).alloc (.cells #[.int .i64 ys, .int .i64 yp, .bool fr', .slice q3 raw'.length d3, .slice q4 rawm'.length d4] 47)).alloc (.cells #[.slice none 0 0] 61)))
  clear b1 b2 b3 B1 B2 B3 z1 z2 z3
  go_enter Tryd.func26, Tryd.ntmps26
  go_wp2_with fail
  clear hs1 hs2
  generalize (((w.alloc (.cells #[.int .i64 xs, .int .i64 xp, .bool fr, .slice p3 raw.length c3, .slice p4 rawm.length c4] 47)).alloc (.cells #[.int .i64 ys, .int .i64 yp, .bool fr', .slice q3 raw'.length d3, .slice q4 rawm'.length d4] 47)).alloc (.cells #[.slice none 0 0] 61)) = w0 at *
  obtain ⟨g, hg⟩ : ∃ g, g = w.heap.size := ⟨_, rfl⟩
  have HG := Lib.hid (Nat.le_of_eq hg.symm)
  rw [← hg] at X1 X2 X3 HKB ⊢
  clear hg
  have HX3 := Lib.hid X3
  clear X1 X2 X3
  refine (HP1.out _).mono ?_; rintro e wn ⟨rfl, rfl⟩
  obtain ⟨⟨hx0, hx1, hx2, hx3, hx4⟩, -⟩ := HKB.out _ HC1.out
  go_wp2_with fail
  refine (HKX.out _ HC0.out).mono ?_; rintro e w1 ⟨vs, rfl, hs, hb⟩
  replace HC0 := Lib.hid (HC0.out.trans (hb.mono HC0.out.size))
  replace HC1 := Lib.hid (HC1.out.trans (hb.mono HC1.out.size))
  have HS := Lib.hid hs.isSv
  replace HX3 := Lib.hid (HX3.out.next hb)
  clear hs hb hx0 hx1 hx2 hx3 hx4
  go_wp2_with fail
  refine (HPU.out _ _ HS.out).mono ?_; rintro e w2 ⟨pd, nd, cd, rfl, hd, hb⟩
  replace HC0 := Lib.hid (HC0.out.trans (hb.mono HC0.out.size))
  replace HC1 := Lib.hid (HC1.out.trans (hb.mono HC1.out.size))
  replace HX3 := Lib.hid (HX3.out.next hb)
  clear hb HS
  have le_HC0 := HC0.out.size
  have le_HC1 := HC1.out.size
  have h3lt := HX3.out.lt
  obtain ⟨b9, B9, z9⟩ := boxed0 w2 [.slice pd nd cd] 61
  replace HC0 := Lib.hid (HC0.out.trans (b9.mono HC0.out.size))
  replace HC1 := Lib.hid (HC1.out.trans (b9.mono HC1.out.size))
  replace HX3 := Lib.hid (HX3.out.next b9)
  have HD := Lib.hid ((hd.later b9).mono (Nat.zero_le _))
  have hz := B9.one
  have hz9 := B9.lt
  clear hd b9
  go_wp2_with fail
  generalize hw3 : (w2.alloc (.cells #[.slice pd nd cd] 61)) = w3 at *
  clear hw3
  obtain ⟨g9, hg9⟩ : ∃ g9, g9 = w2.heap.size := ⟨_, rfl⟩
  rw [← hg9] at B9 z9 hz hz9 le_HC0 le_HC1 h3lt ⊢
  clear hg9
  refine (HSE.out _ _ HD.out).mono ?_; rintro e w4 ⟨pe, ne, ce, rfl, he, hb⟩
  have V8 := B9.next hb
  obtain ⟨hv, hvf⟩ := V8.one'
  have HD5 := Lib.hid ((he.setCell (a := ⟨g9, 0, none⟩) (by show g9 < _; exact hz9) (.slice pe ne ce)).mono (Nat.zero_le _))
  have HV5 := Lib.hid (V8.setc 0 (.slice pe ne ce))
  replace HX3 := Lib.hid (bx_oth (HX3.out.next hb) (a := ⟨g9, 0, none⟩) (by show g + 1 + 1 ≠ g9; omega) (.slice pe ne ce))
  replace HC0 := Lib.hid (HC0.out.trans (hb.mono HC0.out.size))
  replace HC1 := Lib.hid (HC1.out.trans (hb.mono HC1.out.size))
  replace HC0 := Lib.hid (HC0.out.setCell (p := ⟨g9, 0, none⟩) le_HC0 (.slice pe ne ce))
  replace HC1 := Lib.hid (HC1.out.setCell (p := ⟨g9, 0, none⟩) le_HC1 (.slice pe ne ce))
  clear hb he V8 hz
  go_upto_region 4 with fail
  generalize hw5 : (w4.setCell ⟨g9, 0, none⟩ (.slice pe ne ce)) = w5 at *
  clear hw5 hv hvf
  have hk0 := HV5.out.one
  obtain ⟨-, hy0, hy1, hy2, hy3, hy4⟩ := HKB.out _ HC1.out
  have HY := Lib.hid (fun (W : World) (hW : Below w5.heap.size w5 W) => (HKB.out W (HC1.out.trans (hW.mono HC1.out.size))).2)
  go_cut [12] (fun s12 wx => ∃ (pf : Option Addr) (nf cf : Nat), s12 = .int .i64 0 ∧ Hid (IsD wx 0 (.slice pf nf cf) [whF sv B, nwF nxN B']) ∧ Hid (Bx wx g9 [.slice pf nf cf]) ∧ Hid (Bx wx (g + 1 + 1) [.slice none 0 0]) ∧ Hid (Below g9 w5 wx))
  case first =>
    go_region_with (first
      | (go_at_call 17; refine (HKY.out w5.drew (HC0.out.trans ((Below.refl _ w5).drew.mono HC0.out.size))).mono ?_; rintro e w6 ⟨vs, rfl, hs, hb⟩; have hbk : Below w5.heap.size w5 w6 := ((Below.refl _ w5).drew).trans hb; have HSV := Lib.hid hs.isSv; clear hs; have hk0 := (HV5.out.next hbk).one; obtain ⟨hy0, hy1, hy2, hy3, hy4⟩ := HY.out _ hbk)
      | (go_at_call 21; refine (HPU2.out _ _ _ (HD5.out.later hbk) HSV.out).mono ?_; rintro e w7 ⟨pf, nf, cf, rfl, hf, hb7⟩; have hbx : Below w5.heap.size w5 w7 := hbk.trans (hb7.mono hbk.size); obtain ⟨hv, hvf⟩ := (HV5.out.next hbx).one')
      | fail)
    all_goals go_wp2_with fail
    all_goals go_meet
    all_goals exact ⟨pf, nf, cf, rfl, Lib.hid ((hf.setCell (a := ⟨g9, 0, none⟩) (by show g9 < w6.heap.size; exact Nat.lt_of_lt_of_le HV5.out.lt hbk.size) (.slice pf nf cf)).mono (Nat.zero_le _)), Lib.hid ((HV5.out.next hbx).setc 0 _), Lib.hid (bx_oth (HX3.out.next hbx) (a := ⟨g9, 0, none⟩) (by show g + 1 + 1 ≠ g9; omega) _), Lib.hid ((hbx.mono (Nat.le_of_lt HV5.out.lt)).setCell (Nat.le_refl _) _)⟩
  case rest =>
  obtain ⟨pf, nf, cf, rfl, HDF, HVF, HX3', HBF⟩ := hcut
  obtain ⟨w7, rfl⟩ : ∃ w7 : World, w7 = wc := ⟨_, rfl⟩
  replace HC0 := Lib.hid (HC0.out.trans (HBF.out.mono le_HC0))
  replace HC1 := Lib.hid (HC1.out.trans (HBF.out.mono le_HC1))
  clear hk0 hy0 hy1 hy2 hy3 hy4 HY HV5 HD5 HX3
  have hk0 := HVF.out.one
  have hsb := HSUB.out
  go_wp2_with fail
  refine (HSE2.out _ _ HDF.out).mono ?_; rintro e w8 ⟨pt, nt, ct, rfl, ht, hb⟩
  obtain rfl : nt = 2 := ht.len
  have V8 := HVF.out.next hb
  obtain ⟨hv, hvf⟩ := V8.one'
  have hg3 : g + 1 + 1 < w7.heap.size := Nat.lt_trans h3lt HVF.out.lt
  have hw70 := HC0.out.size
  have HT9 := Lib.hid (ht.setCell (a := ⟨g9, 0, none⟩) (by show g9 < _; exact HVF.out.lt) (.slice pt 2 ct))
  have HV9 := Lib.hid (V8.setc 0 (.slice pt 2 ct))
  have HX9 := Lib.hid (bx_oth (HX3'.out.next hb) (a := ⟨g9, 0, none⟩) (by show g + 1 + 1 ≠ g9; omega) (.slice pt 2 ct))
  have hw7 : g9 < w7.heap.size := HVF.out.lt
  replace HC0 := Lib.hid (HC0.out.trans (hb.mono HC0.out.size))
  replace HC1 := Lib.hid (HC1.out.trans (hb.mono HC1.out.size))
  replace HC0 := Lib.hid (HC0.out.setCell (p := ⟨g9, 0, none⟩) le_HC0 (.slice pt 2 ct))
  replace HC1 := Lib.hid (HC1.out.setCell (p := ⟨g9, 0, none⟩) le_HC1 (.slice pt 2 ct))
  clear hb ht V8 hk0 hsb
  go_upto_region 6 with fail
  generalize hw9 : (w8.setCell ⟨g9, 0, none⟩ (.slice pt 2 ct)) = w9 at *
  clear hw9 hv hvf
  have hk0 := HV9.out.one
  obtain ⟨hv, hvf⟩ := HX9.out.one'
  have hk2 := HV9.out.one
  go_region
  go_wp2_with fail
  refine bodyPost_ret (v := .tuple #[.agg #[.slice pt 2 ct], .bool true]) ?_ rfl ⟨pt, ct, rfl, ((HT9.out.later (Below.refl _ w9).drew).setCell (a := ⟨g + 1 + 1, 0, none⟩) (by show g + 1 + 1 < _; exact hg3) _).mono hw70, HC0.out.drew.setCell (p := ⟨g + 1 + 1, 0, none⟩) (by have := HG.out; show w.heap.size ≤ g + 1 + 1; omega) _⟩
  rw [results_cell_tmp rfl]
  go_simp
end Go.Proofs.YtmdbcknlipahgaaDoor
