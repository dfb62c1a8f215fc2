/- The walk of the law CkptBack. -/
import Derived.Test.YtmdbcknlipahgaaDoorCkU
import Derived.Test.YtmdbcknlipahgaaDoorSameSv
namespace Go.Proofs.YtmdbcknlipahgaaDoor
open Go.RowKit Go.Sort Go.Proofs
theorem IsKp.val {w : World} {v : Value} {x : KeptR} (h : IsKp w v x) : ∃ p3 c3 p4 c4, v = .agg #[.int .i64 x.step, .int .i64 x.phase, .bool x.fresh, .slice p3 x.values.length c3, .slice p4 x.mail.length c4] := by
  obtain ⟨v3, v4, rfl, h3, h4, -, -⟩ := h
  obtain ⟨p3, c3, rfl⟩ := h3.val
  obtain ⟨p4, c4, rfl⟩ := h4.val
  exact ⟨p3, c3, p4, c4, rfl⟩
theorem encodeK (v : Value) (x : KeptR) (w : World) (hv : IsSv w v (keptS x)) :
    Calls Tryd.prog 19 #[v] w fun e w' => ∃ p c, e = .returned (.tuple #[.slice p (encK x).length c, .int .i64 0]) ∧ IsB w' (.slice p (encK x).length c) (encK x) ∧ Below w.heap.size w w' := by
  refine (encode_ok v (keptS x) w hv (keptS_ok x) (by have := keptS_enc x; omega)).mono ?_
  rintro e w' ⟨p, c, rfl, ho, hb⟩
  exact ⟨p, c, rfl, .of_own ho (encK_allB x), hb⟩
theorem decodeK (p : Option Addr) (c n : Nat) (x : KeptR) (w : World) (h : IsB w (.slice p n c) (encK x)) :
    Calls Tryd.prog 20 #[.slice p n c] w (GivesS (keptS x) w) := by
  refine (decode_own p c n (encK x) w h).mono ?_
  rintro e w' ⟨v, er, rfl, hb, -, hS, -⟩
  obtain ⟨rfl, hv⟩ := hS _ (decodeL_enc (keptS_ok x) (by have := keptS_enc x; omega))
  exact ⟨v, rfl, hv, hb⟩
set_option maxHeartbeats 8000000 in
set_option maxRecDepth 100000 in
theorem ckptBack_walk (w : World) (v0 : Value) (x0 : KeptR) (h0 : IsKp w v0 x0) (a1 : Int) (h10 : -9223372036854775808 ≤ a1) (h11 : a1 ≤ 9223372036854775807) (a2 : Int) (h20 : -9223372036854775808 ≤ a2) (h21 : a2 ≤ 9223372036854775807) :
    Calls Tryd.prog 7 #[v0, .int .i64 a1, .int .i64 a2] w fun e w' => e = .returned (.bool true) ∧ Below w.heap.size w w' := by
  have HKP := Lib.hid (fun (W : World) (hW : Below w.heap.size w W) => kept_ok v0 x0 W (h0.later hW))
  have HP1 := Lib.hid (fun W => picked_i a1 2 2 W rfl h10 h11 (by omega) (by omega))
  have HP2 := Lib.hid (fun W => picked_i a2 200 200 W rfl h20 h21 (by omega) (by omega))
  have hn := pickN_lt a1 (m := 2) (by omega)
  have hk := pickN_lt a2 (m := 200) (by omega)
  generalize pickN a1 2 = n at *
  generalize pickN a2 200 = k at *
  have hnm := nm3_of n hn
  have hwh := flOk_wh hnm.oka (encK_allB x0) (by have := encK_len x0; omega)
  have hnw := flOk_nw hnm.okx (encK_allB x0) (by have := encK_len x0; omega)
  have HEN := Lib.hid (fun (v : Value) (W : World) (h : IsSv W v (keptS x0)) => encodeK v x0 W h)
  have HDE := Lib.hid (fun (p : Option Addr) (c : Nat) (W : World) (h : IsB W (.slice p (encK x0).length c) (encK x0)) => decodeK p c _ x0 W h)
  have HPU := Lib.hid (fun (v : Value) (W : World) (h : IsSv W v (keptS x0)) => (show Calls Tryd.prog 21 #[.agg #[.slice none 0 0], v] W (GivesD [nwF nxN (encK x0)] W) from by
    have := putD (.slice none 0 0) v [] x0 W h ⟨[], rfl, RDk.nil W 0⟩ dk0 (by simp)
    rwa [ck_put0] at this))
  have HSE := Lib.hid (fun (v : Value) (W : World) (h : IsD W 0 v [nwF nxN (encK x0)]) => (show Calls Tryd.prog 22 #[.agg #[v], .int .i64 (n : Int)] W (GivesD [whF (svN n) (encK x0)] W) from by
    have := sealD n hn v _ W h (dk1 hnw) (by simp [ixF, nwF])
    rwa [ck_seal0 hnm] at this))
  have HCR := Lib.hid (fun (v : Value) (W : World) (h : IsD W 0 v [whF (svN n) (encK x0)]) => (show Calls Tryd.prog 23 #[.agg #[v], .int .i64 (k : Int)] W (GivesD [whF (svN n) (encK x0)] W) from by
    have := crashD k (by omega) v _ W h (dk1 hwh)
    rwa [show crF [whF (svN n) (encK x0)] k = [whF (svN n) (encK x0)] by simp [crF, crF_wh]] at this))
  have HLO := Lib.hid (fun (v : Value) (W : World) (h : IsD W 0 v [whF (svN n) (encK x0)]) => loadD n hn v _ x0 W h (dk1 hwh) (rdF_one _ _ _))
  have HSS := Lib.hid (fun (v u : Value) (W : World) (h1 : IsSv W v (keptS x0)) (h2 : IsSv W u (keptS x0)) => sameSaved_says v u (keptS x0) (keptS x0) W h1 h2)
  have hpos := encK_pos x0
  have hml := keptS_mail_len x0
  obtain ⟨p3, c3, p4, c4, rfl⟩ := h0.val
  have hm64 : x0.mail.length ≤ 9223372036854775807 := by
    obtain ⟨v3, v4, he, h3, h4, -, -⟩ := h0
    obtain ⟨p, c, rfl⟩ := h4.val
    have := h4.lens; omega
  clear h0 h10 h11 h20 h21 hnm hwh hnw
  have hmm : ((keptS x0).mail.length : Int) = min (x0.mail.length : Int) 20 := by rw [hml]; omega
  have HML := Lib.hid hmm
  clear hml hmm
  generalize keptS x0 = s at *
  generalize encK x0 = B at *
  generalize svN n = sv at *
  obtain ⟨xs, xp, fr, raw, rawm⟩ := x0
  dsimp only at *
  obtain ⟨b1, B1, z1⟩ := boxed0 w [.int .i64 xs, .int .i64 xp, .bool fr, .slice p3 raw.length c3, .slice p4 rawm.length c4] 47
  obtain ⟨hx0, hx1, hx2, hx3, hx4⟩ := B1.five
  have HX := Lib.hid B1
  have HB0 := Lib.hid b1
  clear B1 b1 z1
  go_enter Tryd.func7, Tryd.ntmps7
  go_wp2_with fail
  obtain ⟨g, hg⟩ : ∃ g, g = w.heap.size := ⟨_, rfl⟩
  have HG := Lib.hid hg
  rw [← hg] at HX hx0 hx1 hx2 hx3 hx4 ⊢
  clear hg
  generalize (w.alloc (.cells #[.int .i64 xs, .int .i64 xp, .bool fr, .slice p3 raw.length c3, .slice p4 rawm.length c4] 47)) = w0 at *
  refine (HKP.out _ HB0.out).mono ?_; rintro e w1 ⟨v7, rfl, hs1, hb1⟩
  have HX1 := Lib.hid (HX.out.next hb1)
  have HB1 := Lib.hid (HB0.out.trans (hb1.mono HB0.out.size))
  have HS1 := Lib.hid hs1.isSv
  obtain ⟨p5, p6, n5, c5, n6, c6, rfl, -, -⟩ := hs1
  clear hb1 HX HB0 hx0 hx1 hx2 hx3 hx4
  obtain ⟨hx0, hx1, hx2, hx3, hx4⟩ := HX1.out.five
  go_wp2_with fail
  -- WALK
  obtain ⟨b7, B7, z7⟩ := boxed0 w1 [.int .i64 (s.step : Int), .int .i64 (s.phase : Int), .bool s.fresh, .slice p5 n5 c5, .slice p6 n6 c6] 51
  have hHX := Lib.hid (fun (W : World) (hW : Below w1.heap.size w1 W) => (HX1.out.next hW).five)
  go_wp2_with fail
  generalize hw2 : (w1.alloc (.cells #[.int .i64 (s.step : Int), .int .i64 (s.phase : Int), .bool s.fresh, .slice p5 n5 c5, .slice p6 n6 c6] 51)) = w2 at *
  clear hw2
  obtain ⟨g7, hg7⟩ : ∃ g7, g7 = w1.heap.size := ⟨_, rfl⟩
  rw [← hg7] at B7 z7 ⊢
  have HG7 := Lib.hid hg7
  clear hg7
  have HC0 := Lib.hid (HB1.out.trans (b7.mono HB1.out.size))
  have HC1 := Lib.hid b7
  have HC2 := Lib.hid (Below.refl w2.heap.size w2)
  have HK7 := Lib.hid (fun (W : World) (hW : Below w2.heap.size w2 W) => (B7.next hW).five)
  clear b7 B7 hx0 hx1 hx2 hx3 hx4
  refine (HP1.out _).mono ?_; rintro e wn ⟨rfl, rfl⟩
  obtain ⟨hk0, hk1, hk2, hk3, hk4⟩ := HK7.out _ HC2.out
  go_wp2_with fail
  refine (HEN.out _ _ (HS1.out.later HC1.out)).mono ?_; rintro e w3 ⟨p9, c9, rfl, hib, hb⟩
  replace HC0 := Lib.hid (HC0.out.trans (hb.mono HC0.out.size))
  replace HC1 := Lib.hid (HC1.out.trans (hb.mono HC1.out.size))
  replace HC2 := Lib.hid (HC2.out.trans (hb.mono HC2.out.size))
  clear hb hk0 hk1 hk2 hk3 hk4
  have HIB := Lib.hid hib
  clear hib
  go_wp2_with fail
  refine (HDE.out _ _ _ HIB.out).mono ?_; rintro e w4 ⟨v11, rfl, hs11, hb⟩
  replace HC0 := Lib.hid (HC0.out.trans (hb.mono HC0.out.size))
  replace HC1 := Lib.hid (HC1.out.trans (hb.mono HC1.out.size))
  replace HC2 := Lib.hid (HC2.out.trans (hb.mono HC2.out.size))
  clear hb
  have HS11 := Lib.hid hs11.isSv
  obtain ⟨q5, q6, m5, d5, m6, d6, rfl, -, -⟩ := hs11
  obtain ⟨b11, B11, z11⟩ := boxed0 w4 [.int .i64 (s.step : Int), .int .i64 (s.phase : Int), .bool s.fresh, .slice q5 m5 d5, .slice q6 m6 d6] 51
  have HC4 := Lib.hid (Below.refl w4.heap.size w4)
  replace HC0 := Lib.hid (HC0.out.trans (b11.mono HC0.out.size))
  replace HC1 := Lib.hid (HC1.out.trans (b11.mono HC1.out.size))
  replace HC2 := Lib.hid (HC2.out.trans (b11.mono HC2.out.size))
  replace HC4 := Lib.hid (HC4.out.trans (b11.mono HC4.out.size))
  obtain ⟨hk0, hk1, hk2, hk3, hk4⟩ := HK7.out _ HC2.out
  go_wp2_with fail
  generalize hw5 : (w4.alloc (.cells #[.int .i64 (s.step : Int), .int .i64 (s.phase : Int), .bool s.fresh, .slice q5 m5 d5, .slice q6 m6 d6] 51)) = w5 at *
  clear hw5
  have HK11 := Lib.hid (fun (W : World) (hW : Below w5.heap.size w5 W) => (B11.next hW).five)
  have HC5 := Lib.hid (Below.refl w5.heap.size w5)
  obtain ⟨g11, hg11⟩ : ∃ g11, g11 = w4.heap.size := ⟨_, rfl⟩
  rw [← hg11] at HK11 z11 ⊢
  have HG11 := Lib.hid hg11
  clear hg11 B11 b11 hk0 hk1 hk2 hk3 hk4
  refine (HPU.out _ _ (HS1.out.later HC1.out)).mono ?_; rintro e w6 ⟨pd, nd, cd, rfl, hd, hb⟩
  replace HC0 := Lib.hid (HC0.out.trans (hb.mono HC0.out.size))
  replace HC1 := Lib.hid (HC1.out.trans (hb.mono HC1.out.size))
  replace HC2 := Lib.hid (HC2.out.trans (hb.mono HC2.out.size))
  replace HC4 := Lib.hid (HC4.out.trans (hb.mono HC4.out.size))
  replace HC5 := Lib.hid (HC5.out.trans (hb.mono HC5.out.size))
  clear hb
  have le_HC0 := HC0.out.size
  have le_HC1 := HC1.out.size
  have le_HC2 := HC2.out.size
  have le_HC4 := HC4.out.size
  have le_HC5 := HC5.out.size
  obtain ⟨b13, B13, z13⟩ := boxed0 w6 [.slice pd nd cd] 61
  replace HC0 := Lib.hid (HC0.out.trans (b13.mono HC0.out.size))
  replace HC1 := Lib.hid (HC1.out.trans (b13.mono HC1.out.size))
  replace HC2 := Lib.hid (HC2.out.trans (b13.mono HC2.out.size))
  replace HC4 := Lib.hid (HC4.out.trans (b13.mono HC4.out.size))
  replace HC5 := Lib.hid (HC5.out.trans (b13.mono HC5.out.size))
  have HD := Lib.hid ((hd.later b13).mono (Nat.zero_le _))
  have hz := B13.one
  have hz13 := B13.lt
  clear hd b13
  go_wp2_with fail
  generalize hw7 : (w6.alloc (.cells #[.slice pd nd cd] 61)) = w7 at *
  clear hw7
  obtain ⟨g13, hg13⟩ : ∃ g13, g13 = w6.heap.size := ⟨_, rfl⟩
  rw [← hg13] at B13 z13 hz hz13 le_HC0 le_HC1 le_HC2 le_HC4 le_HC5 ⊢
  have HG13 := Lib.hid hg13
  clear hg13
  refine (HSE.out _ _ HD.out).mono ?_; rintro e w8 ⟨pe, ne, ce, rfl, he, hb⟩
  have V8 := B13.next hb
  obtain ⟨hv, hvf⟩ := V8.one'
  have HD9 := Lib.hid ((he.setCell (a := ⟨g13, 0, none⟩) (by show g13 < _; exact hz13) (.slice pe ne ce)).mono (Nat.zero_le _))
  have HV9 := Lib.hid (V8.setc 0 (.slice pe ne ce))
  replace HC0 := Lib.hid (HC0.out.trans (hb.mono HC0.out.size))
  replace HC1 := Lib.hid (HC1.out.trans (hb.mono HC1.out.size))
  replace HC2 := Lib.hid (HC2.out.trans (hb.mono HC2.out.size))
  replace HC4 := Lib.hid (HC4.out.trans (hb.mono HC4.out.size))
  replace HC5 := Lib.hid (HC5.out.trans (hb.mono HC5.out.size))
  replace HC0 := Lib.hid (HC0.out.setCell (p := ⟨g13, 0, none⟩) le_HC0 (.slice pe ne ce))
  replace HC1 := Lib.hid (HC1.out.setCell (p := ⟨g13, 0, none⟩) le_HC1 (.slice pe ne ce))
  replace HC2 := Lib.hid (HC2.out.setCell (p := ⟨g13, 0, none⟩) le_HC2 (.slice pe ne ce))
  replace HC4 := Lib.hid (HC4.out.setCell (p := ⟨g13, 0, none⟩) le_HC4 (.slice pe ne ce))
  replace HC5 := Lib.hid (HC5.out.setCell (p := ⟨g13, 0, none⟩) le_HC5 (.slice pe ne ce))
  clear hb he V8 hz
  go_upto_region 7 with fail
  generalize hw9 : (w8.setCell ⟨g13, 0, none⟩ (.slice pe ne ce)) = w9 at *
  clear hw9 hv hvf
  have hk0 := HV9.out.one
  go_cut [16] (fun s16 wx => ∃ (pf : Option Addr) (nf cf : Nat), s16 = .int .i64 0 ∧ Hid (IsD wx 0 (.slice pf nf cf) [whF sv B]) ∧ Hid (Bx wx g13 [.slice pf nf cf]) ∧ Hid (Below g13 w9 wx))
  case first =>
    go_region_with (first
      | (go_at_call 18; refine (HP2.out _).mono ?_; rintro e wn ⟨rfl, rfl⟩)
      | (go_at_call 23; refine (HCR.out _ w9.drew (HD9.out.later (Below.refl _ w9).drew)).mono ?_; rintro e w10 ⟨pf, nf, cf, rfl, hf, hb⟩; have hbx : Below w9.heap.size w9 w10 := ((Below.refl _ w9).drew).trans hb; obtain ⟨hv, hvf⟩ := (HV9.out.next hbx).one')
      | fail)
    all_goals go_wp2_with fail
    all_goals go_meet
    all_goals exact ⟨pf, nf, cf, rfl, Lib.hid ((hf.setCell (a := ⟨g13, 0, none⟩) (by show g13 < w9.heap.size; exact HV9.out.lt) (.slice pf nf cf)).mono (Nat.zero_le _)), Lib.hid ((HV9.out.next hbx).setc 0 _), Lib.hid ((hbx.mono (Nat.le_of_lt HV9.out.lt)).setCell (Nat.le_refl _) _)⟩
  case rest =>
  obtain ⟨pf, nf, cf, rfl, HDF, HVF, HBF⟩ := hcut
  obtain ⟨w10, rfl⟩ : ∃ w10 : World, w10 = wc := ⟨_, rfl⟩
  replace HC0 := Lib.hid (HC0.out.trans (HBF.out.mono le_HC0))
  replace HC1 := Lib.hid (HC1.out.trans (HBF.out.mono le_HC1))
  replace HC2 := Lib.hid (HC2.out.trans (HBF.out.mono le_HC2))
  replace HC4 := Lib.hid (HC4.out.trans (HBF.out.mono le_HC4))
  replace HC5 := Lib.hid (HC5.out.trans (HBF.out.mono le_HC5))
  clear hk0 HV9 HD9
  have hk0 := HVF.out.one
  go_wp2_with fail
  refine (HLO.out _ _ HDF.out).mono ?_; rintro e w11 ⟨v17, rfl, hs17, hb⟩
  replace HC0 := Lib.hid (HC0.out.trans (hb.mono HC0.out.size))
  replace HC1 := Lib.hid (HC1.out.trans (hb.mono HC1.out.size))
  replace HC2 := Lib.hid (HC2.out.trans (hb.mono HC2.out.size))
  replace HC4 := Lib.hid (HC4.out.trans (hb.mono HC4.out.size))
  replace HC5 := Lib.hid (HC5.out.trans (hb.mono HC5.out.size))
  clear hb hk0
  have HS17 := Lib.hid hs17.isSv
  obtain ⟨r5, r6, k5, f5, k6, f6, rfl, -, h6⟩ := hs17
  have hk6 := (Sl.of_own h6).mlen.1
  have hge := HML.out
  have he6 : ((k6 : Int) == min (rawm.length : Int) 20) = true := by rw [hk6, hge]; simp
  have HE6 := Lib.hid he6
  have h9a : decide ((8 : Int) < (B.length : Int)) = true := by simp; omega
  have h9b : decide (8 < B.length) = true := by simp; omega
  obtain ⟨b17, B17, z17⟩ := boxed0 w11 [.int .i64 (s.step : Int), .int .i64 (s.phase : Int), .bool s.fresh, .slice r5 k5 f5, .slice r6 k6 f6] 51
  have HC11 := Lib.hid (Below.refl w11.heap.size w11)
  clear h6 hk6 hge
  replace HC0 := Lib.hid (HC0.out.trans (b17.mono HC0.out.size))
  replace HC1 := Lib.hid (HC1.out.trans (b17.mono HC1.out.size))
  replace HC2 := Lib.hid (HC2.out.trans (b17.mono HC2.out.size))
  replace HC4 := Lib.hid (HC4.out.trans (b17.mono HC4.out.size))
  replace HC5 := Lib.hid (HC5.out.trans (b17.mono HC5.out.size))
  replace HC11 := Lib.hid (HC11.out.trans (b17.mono HC11.out.size))
  obtain ⟨hy0, hy1, hy2, hy3, hy4⟩ := B17.five
  have HK17 := Lib.hid (fun (W : World) (hW : Below (w11.alloc (.cells #[.int .i64 (s.step : Int), .int .i64 (s.phase : Int), .bool s.fresh, .slice r5 k5 f5, .slice r6 k6 f6] 51)).heap.size (w11.alloc (.cells #[.int .i64 (s.step : Int), .int .i64 (s.phase : Int), .bool s.fresh, .slice r5 k5 f5, .slice r6 k6 f6] 51)) W) => (B17.next hW).five)
  obtain ⟨hk0, hk1, hk2, hk3, hk4⟩ := HK7.out _ HC2.out
  obtain ⟨hq0, hq1, hq2, hq3, hq4⟩ := HK11.out _ HC5.out
  obtain ⟨hx0, hx1, hx2, hx3, hx4⟩ := hHX.out _ HC1.out
  clear b17
  go_wp2_with fail
  refine (HSS.out _ _ _ ((HS11.out.later HC4.out)) (HS1.out.later HC1.out)).mono ?_; rintro e w13 ⟨r, rfl, hr, hb⟩
  obtain rfl : r = true := hr.2 (by trivial)
  clear hr
  generalize hw12 : (w11.alloc (.cells #[.int .i64 (s.step : Int), .int .i64 (s.phase : Int), .bool s.fresh, .slice r5 k5 f5, .slice r6 k6 f6] 51)) = w12 at *
  clear hw12
  replace HC0 := Lib.hid (HC0.out.trans (hb.mono HC0.out.size))
  replace HC1 := Lib.hid (HC1.out.trans (hb.mono HC1.out.size))
  replace HC2 := Lib.hid (HC2.out.trans (hb.mono HC2.out.size))
  replace HC4 := Lib.hid (HC4.out.trans (hb.mono HC4.out.size))
  replace HC5 := Lib.hid (HC5.out.trans (hb.mono HC5.out.size))
  replace HC11 := Lib.hid (HC11.out.trans (hb.mono HC11.out.size))
  obtain ⟨hy0, hy1, hy2, hy3, hy4⟩ := HK17.out _ hb
  obtain ⟨hk0, hk1, hk2, hk3, hk4⟩ := HK7.out _ HC2.out
  obtain ⟨hx0, hx1, hx2, hx3, hx4⟩ := hHX.out _ HC1.out
  have HB13 := Lib.hid hb
  clear hb hq0 hq1 hq2 hq3 hq4
  go_wp2_with fail
  refine (HSS.out _ _ _ ((HS17.out.later HC11.out)) (HS1.out.later HC1.out)).mono ?_; rintro e w14 ⟨r, rfl, hr, hb⟩
  obtain rfl : r = true := hr.2 (by trivial)
  clear hr
  replace HC0 := Lib.hid (HC0.out.trans (hb.mono HC0.out.size))
  replace HC1 := Lib.hid (HC1.out.trans (hb.mono HC1.out.size))
  replace HC2 := Lib.hid (HC2.out.trans (hb.mono HC2.out.size))
  replace HC4 := Lib.hid (HC4.out.trans (hb.mono HC4.out.size))
  replace HC5 := Lib.hid (HC5.out.trans (hb.mono HC5.out.size))
  replace HC11 := Lib.hid (HC11.out.trans (hb.mono HC11.out.size))
  obtain ⟨hy0, hy1, hy2, hy3, hy4⟩ := (HK17.out _ (HB13.out.trans (hb.mono HB13.out.size)))
  obtain ⟨hx0, hx1, hx2, hx3, hx4⟩ := hHX.out _ HC1.out
  have he6 := HE6.out
  clear hb hk0 hk1 hk2 hk3 hk4
  go_wp2_with fail
  go_ret
  exact ⟨rfl, HC0.out⟩
end Go.Proofs.YtmdbcknlipahgaaDoor
