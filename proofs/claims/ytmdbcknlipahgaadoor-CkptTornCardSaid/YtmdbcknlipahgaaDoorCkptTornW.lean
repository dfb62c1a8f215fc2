/- The walk of the law CkptTorn. Printed by gentorn.py. -/
import Derived.Test.YtmdbcknlipahgaaDoorSealed
namespace Go.Proofs.YtmdbcknlipahgaaDoor
open Go.RowKit Go.Sort Go.Proofs
theorem OwnSv.later {w w' : World} {B : Nat} {v : Value} {s : Sv} (h : OwnSv w B v s) (hb : Below w.heap.size w w') : OwnSv w' B v s := by
  obtain ⟨p, p', n, c, m, c', rfl, h1, h2⟩ := h
  exact ⟨p, p', n, c, m, c', rfl, own_later h1 hb, own_later h2 hb⟩
theorem OwnSv.set5 {w : World} {B g : Nat} {v : Value} {s : Sv} (h : OwnSv w B v s) (hg : g < B) (a b c d e : Value) : OwnSv (((((w.setCell ⟨g, 0, none⟩ a).setCell ⟨g, 1, none⟩ b).setCell ⟨g, 2, none⟩ c).setCell ⟨g, 3, none⟩ d).setCell ⟨g, 4, none⟩ e) B v s := by
  obtain ⟨p, p', n, c', m, d', rfl, h1, h2⟩ := h
  exact ⟨p, p', n, c', m, d', rfl, own_set5 h1 hg _ _ _ _ _, own_set5 h2 hg _ _ _ _ _⟩
set_option maxHeartbeats 16000000 in
set_option maxRecDepth 100000 in
theorem ckptTorn_walk (w : World) (v0 : Value) (x : KeptR) (h0 : IsKp w v0 x) (v1 : Value) (y : KeptR) (h1 : IsKp w v1 y) (v2 : Value) (z : KeptR) (h2 : IsKp w v2 z) (a3 : Int) (h30 : -9223372036854775808 ≤ a3) (h31 : a3 ≤ 9223372036854775807) (a4 : Int) (h40 : -9223372036854775808 ≤ a4) (h41 : a4 ≤ 9223372036854775807) :
    Calls Tryd.prog 8 #[v0, v1, v2, .int .i64 a3, .int .i64 a4] w fun e w' => e = .returned (.bool true) ∧ Below w.heap.size w w' := by
  have HKX := Lib.hid (fun (W : World) (hW : Below w.heap.size w W) => kept_ok v0 x W (h0.later hW))
  have HKY := Lib.hid (fun (W : World) (hW : Below w.heap.size w W) => kept_ok v1 y W (h1.later hW))
  have HKZ := Lib.hid (fun (W : World) (hW : Below w.heap.size w W) => kept_ok v2 z W (h2.later hW))
  have HSD := Lib.hid (fun (W : World) (hW : Below w.heap.size w W) => sealed_ok W v0 v1 x y (h0.later hW) (h1.later hW) a3 h30 h31)
  have HP1 := Lib.hid (fun W => picked_i a3 2 2 W rfl h30 h31 (by omega) (by omega))
  have HP2 := Lib.hid (fun W => picked_i a4 200 200 W rfl h40 h41 (by omega) (by omega))
  have hn := pickN_lt a3 (m := 2) (by omega)
  have hk := pickN_lt a4 (m := 200) (by omega)
  generalize pickN a3 2 = n at *
  generalize pickN a4 200 = k at *
  have hnm := nm3_of n hn
  have fx := flOk_wh hnm.oka (encK_allB x) (by have := encK_len x; omega)
  have fy := flOk_wh hnm.okb (encK_allB y) (by have := encK_len y; omega)
  have fz := flOk_wh hnm.oka (encK_allB z) (by have := encK_len z; omega)
  have fn := flOk_nw hnm.okx (encK_allB z) (by have := encK_len z; omega)
  have D2 : DkOk (twoF n x y) := dk2 fx fy hnm.ab
  have D3 : DkOk [whF (svN n) (encK x), whF (svN (1 - n)) (encK y), nwF nxN (encK z)] := dk3 fx fy fn hnm.ab hnm.xa.symm hnm.xb.symm
  have hcn := (crF_nw nxN (encK z) k).1
  have eC : crF [whF (svN n) (encK x), whF (svN (1 - n)) (encK y), nwF nxN (encK z)] k = [whF (svN n) (encK x), whF (svN (1 - n)) (encK y), crF1 k (nwF nxN (encK z))] := by simp [crF, crF_wh]
  have D4 : DkOk [whF (svN n) (encK x), whF (svN (1 - n)) (encK y), crF1 k (nwF nxN (encK z))] := dk3 fx fy (flOk_cr fn k) hnm.ab (by rw [hcn]; exact hnm.xa.symm) (by rw [hcn]; exact hnm.xb.symm)
  have D6 : DkOk [whF (svN (1 - n)) (encK y), whF (svN n) (encK z)] := dk2 fy fz (fun e => hnm.ab e.symm)
  have HPU := Lib.hid (fun (d v : Value) (W : World) (hd : IsD W 0 d (twoF n x y)) (h : IsSv W v (keptS z)) => (show Calls Tryd.prog 21 #[.agg #[d], v] W (GivesD [whF (svN n) (encK x), whF (svN (1 - n)) (encK y), nwF nxN (encK z)] W) from by
    have := putD d v _ z W h hd D2 (by simp [twoF])
    unfold twoF at this
    rwa [ck_put2 hnm] at this))
  have HCR := Lib.hid (fun (v : Value) (W : World) (h : IsD W 0 v [whF (svN n) (encK x), whF (svN (1 - n)) (encK y), nwF nxN (encK z)]) => (show Calls Tryd.prog 23 #[.agg #[v], .int .i64 (k : Int)] W (GivesD [whF (svN n) (encK x), whF (svN (1 - n)) (encK y), crF1 k (nwF nxN (encK z))] W) from by
    have := crashD k (by omega) v _ W h D3
    rwa [eC] at this))
  have HL1 := Lib.hid (fun (v : Value) (W : World) (h : IsD W 0 v [whF (svN n) (encK x), whF (svN (1 - n)) (encK y), crF1 k (nwF nxN (encK z))]) => loadD n hn v _ x W h D4 (rdF_one _ _ _))
  have HL2 := Lib.hid (fun (v : Value) (W : World) (h : IsD W 0 v [whF (svN n) (encK x), whF (svN (1 - n)) (encK y), crF1 k (nwF nxN (encK z))]) => loadD (1 - n) (by omega) v _ y W h D4 (rdF_two hnm.ab _ _ _))
  have HPU2 := Lib.hid (fun (d v : Value) (W : World) (hd : IsD W 0 d [whF (svN n) (encK x), whF (svN (1 - n)) (encK y), crF1 k (nwF nxN (encK z))]) (h : IsSv W v (keptS z)) => (show Calls Tryd.prog 21 #[.agg #[d], v] W (GivesD [whF (svN n) (encK x), whF (svN (1 - n)) (encK y), nwF nxN (encK z)] W) from by
    have := putD d v _ z W h hd D4 (by simp)
    rwa [ck_put3 hnm _ _ _ _ hcn] at this))
  have HSE := Lib.hid (fun (v : Value) (W : World) (h : IsD W 0 v [whF (svN n) (encK x), whF (svN (1 - n)) (encK y), nwF nxN (encK z)]) => (show Calls Tryd.prog 22 #[.agg #[v], .int .i64 (n : Int)] W (GivesD [whF (svN (1 - n)) (encK y), whF (svN n) (encK z)] W) from by
    have := sealD n hn v _ W h D3 (by simp [ixF, nwF, whF, hnm.xa.symm, hnm.xb.symm])
    rwa [ck_seal2 hnm] at this))
  have HL3 := Lib.hid (fun (v : Value) (W : World) (h : IsD W 0 v [whF (svN (1 - n)) (encK y), whF (svN n) (encK z)]) => loadD n hn v _ z W h D6 (rdF_two (fun e => hnm.ab e.symm) _ _ _))
  have HL4 := Lib.hid (fun (v : Value) (W : World) (h : IsD W 0 v [whF (svN (1 - n)) (encK y), whF (svN n) (encK z)]) => loadD (1 - n) (by omega) v _ y W h D6 (rdF_one _ _ _))
  have hsub2 : (1 : Int) - (n : Int) = ((1 - n : Nat) : Int) := by omega
  have HSUB := Lib.hid hsub2
  obtain ⟨p3, c3, p4, c4, rfl⟩ := h0.val
  obtain ⟨q3, d3, q4, d4, rfl⟩ := h1.val
  obtain ⟨r3, e3, r4, e4, rfl⟩ := h2.val
  clear h0 h1 h2 h30 h31 h40 h41 hnm fx fy fz fn D2 D3 hcn eC D4 D6 hsub2
  generalize (1 - n : Nat) = n' at *
  generalize twoF n x y = F2 at *
  generalize [whF (svN n) (encK x), whF (svN n') (encK y), nwF nxN (encK z)] = F3 at *
  generalize [whF (svN n) (encK x), whF (svN n') (encK y), crF1 k (nwF nxN (encK z))] = F4 at *
  generalize [whF (svN n') (encK y), whF (svN n) (encK z)] = F6 at *
  generalize keptS x = sx at *
  generalize keptS y = sy at *
  generalize keptS z = sz at *
  obtain ⟨xs, xp, fr, raw, rawm⟩ := x
  obtain ⟨ys, yp, fr', raw', rawm'⟩ := y
  obtain ⟨zs, zp, fr'', raw'', rawm''⟩ := z
  dsimp only at *
  obtain ⟨b1, B1, z1⟩ := boxed0 w [.int .i64 xs, .int .i64 xp, .bool fr, .slice p3 raw.length c3, .slice p4 rawm.length c4] 47
  have hs1 : (w.alloc (.cells #[.int .i64 xs, .int .i64 xp, .bool fr, .slice p3 raw.length c3, .slice p4 rawm.length c4] 47)).heap.size = w.heap.size + 1 := by simp
  obtain ⟨b2, B2, z2⟩ := boxed0 (w.alloc (.cells #[.int .i64 xs, .int .i64 xp, .bool fr, .slice p3 raw.length c3, .slice p4 rawm.length c4] 47)) [.int .i64 ys, .int .i64 yp, .bool fr', .slice q3 raw'.length d3, .slice q4 rawm'.length d4] 47
  have hs2 : ((w.alloc (.cells #[.int .i64 xs, .int .i64 xp, .bool fr, .slice p3 raw.length c3, .slice p4 rawm.length c4] 47)).alloc (.cells #[.int .i64 ys, .int .i64 yp, .bool fr', .slice q3 raw'.length d3, .slice q4 rawm'.length d4] 47)).heap.size = w.heap.size + 1 + 1 := by simp
  obtain ⟨b3, B3, z3⟩ := boxed0 ((w.alloc (.cells #[.int .i64 xs, .int .i64 xp, .bool fr, .slice p3 raw.length c3, .slice p4 rawm.length c4] 47)).alloc (.cells #[.int .i64 ys, .int .i64 yp, .bool fr', .slice q3 raw'.length d3, .slice q4 rawm'.length d4] 47)) [.int .i64 zs, .int .i64 zp, .bool fr'', .slice r3 raw''.length e3, .slice r4 rawm''.length e4] 47
  have HC0 := Lib.hid ((b1.trans (b2.mono (by omega))).trans (b3.mono (by omega)))
  have X1 := (B1.next b2).next b3
  have X2 := B2.next b3
  rw [hs1] at X2
  have X3 := B3
  rw [hs2] at X3
  have HKB := Lib.hid (fun (W : World) (hW : Below (((w.alloc (.cells #[.int .i64 xs, .int .i64 xp, .bool fr, .slice p3 raw.length c3, .slice p4 rawm.length c4] 47)).alloc (.cells #[.int .i64 ys, .int .i64 yp, .bool fr', .slice q3 raw'.length d3, .slice q4 rawm'.length d4] 47)).alloc (.cells #[.int .i64 zs, .int .i64 zp, .bool fr'', .slice r3 raw''.length e3, .slice r4 rawm''.length e4] 47)).heap.size (((w.alloc (.cells #[.int .i64 xs, .int .i64 xp, .bool fr, .slice p3 raw.length c3, .slice p4 rawm.length c4] 47)).alloc (.cells #[.int .i64 ys, .int .i64 yp, .bool fr', .slice q3 raw'.length d3, .slice q4 rawm'.length d4] 47)).alloc (.cells #[.int .i64 zs, .int .i64 zp, .bool fr'', .slice r3 raw''.length e3, .slice r4 rawm''.length e4] 47)) W) => (⟨(X1.next hW).five, (X2.next hW).five, (X3.next hW).five⟩ : _ ∧ _ ∧ _))
  have HC1 := Lib.hid (Below.refl (((w.alloc (.cells #[.int .i64 xs, .int .i64 xp, .bool fr, .slice p3 raw.length c3, .slice p4 rawm.length c4] 47)).alloc (.cells #[.int .i64 ys, .int .i64 yp, .bool fr', .slice q3 raw'.length d3, .slice q4 rawm'.length d4] 47)).alloc (.cells #[.int .i64 zs, .int .i64 zp, .bool fr'', .slice r3 raw''.length e3, .slice r4 rawm''.length e4] 47)).heap.size (((w.alloc (.cells #[.int .i64 xs, .int .i64 xp, .bool fr, .slice p3 raw.length c3, .slice p4 rawm.length c4] 47)).alloc (.cells #[.int .i64 ys, .int .i64 yp, .bool fr', .slice q3 raw'.length d3, .slice q4 rawm'.length d4] 47)).alloc (.cells #[.int .i64 zs, .int .i64 zp, .bool fr'', .slice r3 raw''.length e3, .slice r4 rawm''.length e4] 47)))
  have hg3 := X3.lt
  clear b1 b2 b3 B1 B2 B3 z1 z2 z3 X1 X2 X3
  go_enter Tryd.func8, Tryd.ntmps8
  obtain ⟨⟨hx0, hx1, hx2, hx3, hx4⟩, ⟨hy0, hy1, hy2, hy3, hy4⟩, -⟩ := HKB.out _ HC1.out
  go_wp2_with fail
  clear hs1 hs2
  generalize (((w.alloc (.cells #[.int .i64 xs, .int .i64 xp, .bool fr, .slice p3 raw.length c3, .slice p4 rawm.length c4] 47)).alloc (.cells #[.int .i64 ys, .int .i64 yp, .bool fr', .slice q3 raw'.length d3, .slice q4 rawm'.length d4] 47)).alloc (.cells #[.int .i64 zs, .int .i64 zp, .bool fr'', .slice r3 raw''.length e3, .slice r4 rawm''.length e4] 47)) = w0 at *
  obtain ⟨g, hg⟩ : ∃ g, g = w.heap.size := ⟨_, rfl⟩
  have HG := Lib.hid (Nat.le_of_eq hg.symm)
  rw [← hg] at HKB hg3 hx0 hx1 hx2 hx3 hx4 hy0 hy1 hy2 hy3 hy4 ⊢
  clear hg
  refine (HSD.out _ HC0.out).mono ?_; rintro e w1 ⟨pa, ca, rfl, hd, hb⟩
  replace HC0 := Lib.hid (HC0.out.trans (hb.mono HC0.out.size))
  replace HC1 := Lib.hid (HC1.out.trans (hb.mono HC1.out.size))
  have le_HC0 := HC0.out.size
  have le_HC1 := HC1.out.size
  clear hb hx0 hx1 hx2 hx3 hx4 hy0 hy1 hy2 hy3 hy4
  obtain ⟨b11, B11, z11⟩ := boxed0 w1 [.slice pa 2 ca] 61
  replace HC0 := Lib.hid (HC0.out.trans (b11.mono HC0.out.size))
  replace HC1 := Lib.hid (HC1.out.trans (b11.mono HC1.out.size))
  have HD1 := Lib.hid ((hd.later b11).mono (Nat.zero_le _))
  clear hd b11
  go_wp2_with fail
  generalize hw2 : (w1.alloc (.cells #[.slice pa 2 ca] 61)) = w2 at *
  clear hw2
  have hg11 : g + 1 + 1 < w1.heap.size := Nat.lt_of_lt_of_le hg3 le_HC1
  obtain ⟨g11, hge⟩ : ∃ g11, g11 = w1.heap.size := ⟨_, rfl⟩
  rw [← hge] at B11 z11 hg11 le_HC0 le_HC1 ⊢
  clear hge
  have HB11 := Lib.hid B11
  clear B11
  refine (HP1.out _).mono ?_; rintro e wn ⟨rfl, rfl⟩
  go_upto_region 3 with fail
  have hk0 := HB11.out.one
  obtain ⟨-, -, hz0, hz1, hz2, hz3, hz4⟩ := HKB.out _ HC1.out
  have HKK := Lib.hid (fun (W : World) (hW : Below w2.heap.size w2 W) => (⟨(HB11.out.next hW).one, (HKB.out W (HC1.out.trans (hW.mono HC1.out.size))).2.2⟩ : _ ∧ _))
  have hl11 := HB11.out.lt
  have hna1 : ¬ g11 = w2.heap.size := by omega
  have hna2 : ¬ w2.heap.size = g11 := by omega
  have hna3 : ¬ g + 1 + 1 = w2.heap.size := by omega
  have hna4 : ¬ w2.heap.size = g + 1 + 1 := by omega
  go_cut [14, 15] (fun s14 s15 wx => ∃ (g14 : Nat) (pf : Option Addr) (nf cf : Nat), s14 = .pointer (some ⟨g14, 0, none⟩) ∧ s15 = .int .i64 0 ∧ w2.heap.size ≤ g14 ∧ Hid (IsD wx 0 (.slice pf nf cf) F3) ∧ Hid (Bx wx g14 [.slice pf nf cf]) ∧ Hid (Below w2.heap.size w2 wx))
  case first =>
    go_region_held3 (fun w' => w'.cell? ⟨g11, 0, none⟩ = some (Value.slice pa 2 ca) ∧ w'.cell? ⟨g + 1 + 1, 0, none⟩ = some (Value.int .i64 zs) ∧ w'.cell? ⟨g + 1 + 1, 1, none⟩ = some (Value.int .i64 zp) ∧ w'.cell? ⟨g + 1 + 1, 2, none⟩ = some (Value.bool fr'') ∧ w'.cell? ⟨g + 1 + 1, 3, none⟩ = some (Value.slice r3 raw''.length e3) ∧ w'.cell? ⟨g + 1 + 1, 4, none⟩ = some (Value.slice r4 rawm''.length e4)) (first | (exact ⟨hk0, hz0, hz1, hz2, hz3, hz4⟩) | go_keep)
      (first
        | (go_at_call 17; (with_reducible refine (HKZ.out w2.drew (HC0.out.trans ((Below.refl _ w2).drew.mono HC0.out.size))).mono ?_); rintro e w3 ⟨vs, rfl, hs, hb⟩; have hbk : Below w2.heap.size w2 w3 := ((Below.refl _ w2).drew).trans hb; have HSV := Lib.hid hs.isSv; clear hs; obtain ⟨hk0, hz0, hz1, hz2, hz3, hz4⟩ := HKK.out _ hbk; have hzk := hbk.size; have hna1 : ¬ g11 = w3.heap.size := (by omega); have hna2 : ¬ w3.heap.size = g11 := (by omega); have hna3 : ¬ g + 1 + 1 = w3.heap.size := (by omega); have hna4 : ¬ w3.heap.size = g + 1 + 1 := (by omega))
        | (go_at_call 17; refine (HKZ.out (w2.alloc (.cells #[.slice none 0 0] 61)).drew (HC0.out.trans ((alloc_below w2 (.cells #[.slice none 0 0] 61)).drew.mono HC0.out.size))).mono ?_; rintro e w3 ⟨vs, rfl, hs, hb⟩; have hbk : Below w2.heap.size w2 w3 := below_next (alloc_below w2 _).drew (Nat.le_refl _) hb; have HSV := Lib.hid hs.isSv; clear hs; obtain ⟨hk0, hz0, hz1, hz2, hz3, hz4⟩ := HKK.out _ hbk; have hbz := Bx.next (show Bx (w2.alloc (.cells #[.slice none 0 0] 61)).drew w2.heap.size [.slice none 0 0] from bx_new w2 _ _) hb; obtain ⟨hv, hvf⟩ := hbz.one')
        | (go_at_call 21; (with_reducible refine (HPU.out _ _ w3 (HD1.out.later hbk) HSV.out).mono ?_); rintro e w4 ⟨pf, nf, cf, rfl, hf, hb4⟩; have hbx : Below w2.heap.size w2 w4 := hbk.trans (hb4.mono hbk.size); obtain ⟨hk0, hz0, hz1, hz2, hz3, hz4⟩ := HKK.out _ hbx; (first | (have hbz4 := hbz.next hb4; obtain ⟨hv, hvf⟩ := hbz4.one') | skip))
        | (go_at_call 21; refine (HPU.out _ _ (w3.alloc (.cells #[.slice none 0 0] 61)) (HD1.out.later (hbk.alloc hbk.size _)) (HSV.out.later (alloc_below w3 _))).mono ?_; rintro e w4 ⟨pf, nf, cf, rfl, hf, hb4⟩; have hbx : Below w2.heap.size w2 w4 := below_next (hbk.alloc hbk.size _) (Nat.le_refl _) hb4; obtain ⟨hk0, hz0, hz1, hz2, hz3, hz4⟩ := HKK.out _ hbx; have hbz4 := Bx.next (show Bx (w3.alloc (.cells #[.slice none 0 0] 61)) w3.heap.size [.slice none 0 0] from bx_new w3 _ _) hb4; obtain ⟨hv, hvf⟩ := hbz4.one')
        | fail)
    all_goals go_wp2_with fail
    all_goals go_meet
    all_goals first
      | exact ⟨_, pf, nf, cf, rfl, rfl, hbx.size, Lib.hid ((hf.later (alloc_below w4 _)).mono (Nat.zero_le _)), Lib.hid (bx_new w4 _ _), Lib.hid (hbx.alloc hbx.size _)⟩
      | exact ⟨_, pf, nf, cf, rfl, rfl, (by first | exact Nat.le_refl _ | exact hbk.size), Lib.hid ((hf.setCell (by first | exact hbz.lt | exact (bx_new w3 _ _).lt) _).mono (Nat.zero_le _)), Lib.hid (hbz4.setc 0 _), Lib.hid (hbx.setCell (by first | exact Nat.le_refl _ | exact hbk.size) _)⟩
  case rest =>
  obtain ⟨g14, pf, nf, cf, rfl, rfl, hg14, HDF, HBF, HBW⟩ := hcut
  obtain ⟨w4, rfl⟩ : ∃ w4 : World, w4 = wc := ⟨_, rfl⟩
  clear hk0 hz0 hz1 hz2 hz3 hz4 HKK hna1 hna2 hna3 hna4 le_HC0 le_HC1
  have le_HC0 := Nat.le_trans HC0.out.size hg14
  have le_HC1 := Nat.le_trans HC1.out.size hg14
  replace HC0 := Lib.hid (HC0.out.trans (HBW.out.mono HC0.out.size))
  replace HC1 := Lib.hid (HC1.out.trans (HBW.out.mono HC1.out.size))
  have hgg14 : g + 1 + 1 < g14 := by omega
  have hl14 := HBF.out.lt
  have hk0 := HBF.out.one
  clear HB11 HD1 HBW hl11 hg11 HPU HSD
  go_upto_region 4 with fail
  go_cut [16] (fun s16 wx => ∃ (pf : Option Addr) (nf cf : Nat), s16 = .int .i64 0 ∧ Hid (IsD wx 0 (.slice pf nf cf) F4) ∧ Hid (Bx wx g14 [.slice pf nf cf]) ∧ Hid (Below g14 w4 wx))
  case first =>
    go_region_with (first
      | (go_at_call 18; refine (HP2.out _).mono ?_; rintro e wn ⟨rfl, rfl⟩)
      | (go_at_call 23; refine (HCR.out _ w4.drew (HDF.out.later (Below.refl _ w4).drew)).mono ?_; rintro e w5 ⟨pf, nf, cf, rfl, hf, hb⟩; have hbx : Below w4.heap.size w4 w5 := ((Below.refl _ w4).drew).trans hb; obtain ⟨hv, hvf⟩ := (HBF.out.next hbx).one')
      | fail)
    all_goals go_wp2_with fail
    all_goals go_meet
    all_goals exact ⟨pf, nf, cf, rfl, Lib.hid ((hf.setCell (a := ⟨g14, 0, none⟩) (by show g14 < w4.heap.size; exact hl14) (.slice pf nf cf)).mono (Nat.zero_le _)), Lib.hid ((HBF.out.next hbx).setc 0 _), Lib.hid ((hbx.mono (Nat.le_of_lt hl14)).setCell (Nat.le_refl _) _)⟩
  case rest =>
  obtain ⟨ph, nh, ch, rfl, HD5, HB5, HBW⟩ := hcut
  obtain ⟨w5, rfl⟩ : ∃ w5 : World, w5 = wc := ⟨_, rfl⟩
  replace HC0 := Lib.hid (HC0.out.trans (HBW.out.mono le_HC0))
  replace HC1 := Lib.hid (HC1.out.trans (HBW.out.mono le_HC1))
  clear hk0 HDF HBF HBW HCR hl14
  have hl14 := HB5.out.lt
  have hk0 := HB5.out.one
  go_wp2_with fail
  refine (HL1.out _ _ HD5.out).mono ?_; rintro e w6 ⟨va, rfl, hs, hb⟩
  replace HC0 := Lib.hid (HC0.out.trans (hb.mono HC0.out.size))
  replace HC1 := Lib.hid (HC1.out.trans (hb.mono HC1.out.size))
  have HB6 := Lib.hid (HB5.out.next hb)
  have HD6 := Lib.hid (HD5.out.later hb)
  have HSA := Lib.hid hs.isSv
  obtain ⟨i5, i6, j5, k5, j6, k6, rfl, -, -⟩ := hs
  have HC6 := Lib.hid (Below.refl w6.heap.size w6)
  have hz6 : g14 < w6.heap.size := HB6.out.lt
  clear hb HB5 HD5 hk0 hl14
  obtain ⟨b17, B17, z17⟩ := boxed0 w6 [.int .i64 (sx.step : Int), .int .i64 (sx.phase : Int), .bool sx.fresh, .slice i5 j5 k5, .slice i6 j6 k6] 51
  replace HC0 := Lib.hid (HC0.out.trans (b17.mono HC0.out.size))
  replace HC1 := Lib.hid (HC1.out.trans (b17.mono HC1.out.size))
  replace HC6 := Lib.hid (HC6.out.trans (b17.mono HC6.out.size))
  have HB7 := Lib.hid (HB6.out.next b17)
  have HD7 := Lib.hid (HD6.out.later b17)
  have hk0 := HB7.out.one
  have hsb := HSUB.out
  clear b17 HB6 HD6
  go_wp2_with fail
  generalize hw7 : (w6.alloc (.cells #[.int .i64 (sx.step : Int), .int .i64 (sx.phase : Int), .bool sx.fresh, .slice i5 j5 k5, .slice i6 j6 k6] 51)) = w7 at *
  clear hw7
  obtain ⟨g17, hge⟩ : ∃ g17, g17 = w6.heap.size := ⟨_, rfl⟩
  rw [← hge] at B17 z17 hz6 ⊢
  clear hge
  have HBX17 := Lib.hid B17
  clear B17
  refine (HL2.out _ _ HD7.out).mono ?_; rintro e w8 ⟨vb, rfl, hs, hb⟩
  replace HC0 := Lib.hid (HC0.out.trans (hb.mono HC0.out.size))
  replace HC1 := Lib.hid (HC1.out.trans (hb.mono HC1.out.size))
  replace HC6 := Lib.hid (HC6.out.trans (hb.mono HC6.out.size))
  have HB8 := Lib.hid (HB7.out.next hb)
  have HD8 := Lib.hid (HD7.out.later hb)
  have HX17 := Lib.hid (HBX17.out.next hb)
  have HSB := Lib.hid hs.isSv
  obtain ⟨l5, l6, m5, t5, m6, t6, rfl, -, -⟩ := hs
  have HC8 := Lib.hid (Below.refl w8.heap.size w8)
  have hz8 : g17 < w8.heap.size := HX17.out.lt
  clear hb HB7 HD7 hk0 hsb HBX17
  have lf_HC0 := HC0.out.size
  have lf_HC1 := HC1.out.size
  have lf_HC6 := HC6.out.size
  obtain ⟨b19, B19, z19⟩ := boxed0 w8 [.int .i64 (sy.step : Int), .int .i64 (sy.phase : Int), .bool sy.fresh, .slice l5 m5 t5, .slice l6 m6 t6] 51
  replace HC0 := Lib.hid (HC0.out.trans (b19.mono HC0.out.size))
  replace HC1 := Lib.hid (HC1.out.trans (b19.mono HC1.out.size))
  replace HC6 := Lib.hid (HC6.out.trans (b19.mono HC6.out.size))
  replace HC8 := Lib.hid (HC8.out.trans (b19.mono HC8.out.size))
  have HB9 := Lib.hid (HB8.out.next b19)
  have HD9 := Lib.hid (HD8.out.later b19)
  have HX9 := Lib.hid (HX17.out.next b19)
  clear b19 HB8 HD8 HX17
  go_upto_region 7 with fail
  generalize hw9 : (w8.alloc (.cells #[.int .i64 (sy.step : Int), .int .i64 (sy.phase : Int), .bool sy.fresh, .slice l5 m5 t5, .slice l6 m6 t6] 51)) = w9 at *
  clear hw9
  obtain ⟨g19, hge⟩ : ∃ g19, g19 = w8.heap.size := ⟨_, rfl⟩
  rw [← hge] at B19 z19 hz8 lf_HC0 lf_HC1 lf_HC6 ⊢
  clear hge
  have HX19 := Lib.hid B19
  clear B19
  have HKK := Lib.hid (fun (W : World) (hW : Below w9.heap.size w9 W) => (⟨(HX9.out.next hW).five, (HX19.out.next hW).five, (HKB.out W (HC1.out.trans (hW.mono HC1.out.size))).1, (HKB.out W (HC1.out.trans (hW.mono HC1.out.size))).2.1⟩ : _ ∧ _ ∧ _ ∧ _))
  obtain ⟨⟨hq0, hq1, hq2, hq3, hq4⟩, ⟨hr0, hr1, hr2, hr3, hr4⟩, ⟨hx0, hx1, hx2, hx3, hx4⟩, ⟨hy0, hy1, hy2, hy3, hy4⟩⟩ := HKK.out _ (Below.refl _ w9)
  have HSS := Lib.hid (fun (s : Sv) (v u : Value) (W : World) (h1 : IsSv W v s) (h2 : IsSv W u s) => sameSaved_says v u s s W h1 h2)
  go_cut [93] (fun s93 wx => s93 = .bool false ∧ Hid (Below w9.heap.size w9 wx))
  case first =>
    go_region_held3 (fun w' => ((w'.cell? ⟨g17, 0, none⟩ = some (Value.int .i64 (sx.step : Int)) ∧ w'.cell? ⟨g17, 1, none⟩ = some (Value.int .i64 (sx.phase : Int)) ∧ w'.cell? ⟨g17, 2, none⟩ = some (Value.bool sx.fresh) ∧ w'.cell? ⟨g17, 3, none⟩ = some (Value.slice i5 j5 k5) ∧ w'.cell? ⟨g17, 4, none⟩ = some (Value.slice i6 j6 k6)) ∧ (w'.cell? ⟨g19, 0, none⟩ = some (Value.int .i64 (sy.step : Int)) ∧ w'.cell? ⟨g19, 1, none⟩ = some (Value.int .i64 (sy.phase : Int)) ∧ w'.cell? ⟨g19, 2, none⟩ = some (Value.bool sy.fresh) ∧ w'.cell? ⟨g19, 3, none⟩ = some (Value.slice l5 m5 t5) ∧ w'.cell? ⟨g19, 4, none⟩ = some (Value.slice l6 m6 t6))) ∧ ((w'.cell? ⟨g, 0, none⟩ = some (Value.int .i64 xs) ∧ w'.cell? ⟨g, 1, none⟩ = some (Value.int .i64 xp) ∧ w'.cell? ⟨g, 2, none⟩ = some (Value.bool fr) ∧ w'.cell? ⟨g, 3, none⟩ = some (Value.slice p3 raw.length c3) ∧ w'.cell? ⟨g, 4, none⟩ = some (Value.slice p4 rawm.length c4)) ∧ (w'.cell? ⟨g + 1, 0, none⟩ = some (Value.int .i64 ys) ∧ w'.cell? ⟨g + 1, 1, none⟩ = some (Value.int .i64 yp) ∧ w'.cell? ⟨g + 1, 2, none⟩ = some (Value.bool fr') ∧ w'.cell? ⟨g + 1, 3, none⟩ = some (Value.slice q3 raw'.length d3) ∧ w'.cell? ⟨g + 1, 4, none⟩ = some (Value.slice q4 rawm'.length d4)))) (first | (exact ⟨⟨⟨hq0, hq1, hq2, hq3, hq4⟩, ⟨hr0, hr1, hr2, hr3, hr4⟩⟩, ⟨hx0, hx1, hx2, hx3, hx4⟩, ⟨hy0, hy1, hy2, hy3, hy4⟩⟩) | go_keep)
      (first
        | (go_at_call 17; (with_reducible refine (HKX.out w9.drew (HC0.out.trans ((Below.refl _ w9).drew.mono HC0.out.size))).mono ?_); rintro e wa ⟨vs, rfl, hs, hb⟩; have hba : Below w9.heap.size w9 wa := ((Below.refl _ w9).drew).trans hb; have HSa := Lib.hid hs.isSv; clear hs; obtain ⟨⟨hq0, hq1, hq2, hq3, hq4⟩, ⟨hr0, hr1, hr2, hr3, hr4⟩, ⟨hx0, hx1, hx2, hx3, hx4⟩, ⟨hy0, hy1, hy2, hy3, hy4⟩⟩ := HKK.out _ hba)
        | (go_at_call 25; (with_reducible refine (HSS.out sx _ _ wa (HSA.out.later (HC6.out.trans (hba.mono HC6.out.size))) HSa.out).mono ?_); rintro e wb ⟨r, rfl, hr, hb⟩; obtain rfl : r = true := (hr.2 (by trivial)); clear hr; have hbb : Below w9.heap.size w9 wb := hba.trans (hb.mono hba.size); obtain ⟨⟨hq0, hq1, hq2, hq3, hq4⟩, ⟨hr0, hr1, hr2, hr3, hr4⟩, ⟨hx0, hx1, hx2, hx3, hx4⟩, ⟨hy0, hy1, hy2, hy3, hy4⟩⟩ := HKK.out _ hbb)
        | (go_at_call 17; (with_reducible refine (HKY.out wb (HC0.out.trans (hbb.mono HC0.out.size))).mono ?_); rintro e wd ⟨vs2, rfl, hs, hb⟩; have hbd : Below w9.heap.size w9 wd := hbb.trans (hb.mono hbb.size); have HSd := Lib.hid hs.isSv; clear hs; obtain ⟨⟨hq0, hq1, hq2, hq3, hq4⟩, ⟨hr0, hr1, hr2, hr3, hr4⟩, ⟨hx0, hx1, hx2, hx3, hx4⟩, ⟨hy0, hy1, hy2, hy3, hy4⟩⟩ := HKK.out _ hbd)
        | (go_at_call 25; (with_reducible refine (HSS.out sy _ _ wd (HSB.out.later (HC8.out.trans (hbd.mono HC8.out.size))) HSd.out).mono ?_); rintro e wf ⟨r, rfl, hr, hb⟩; obtain rfl : r = true := (hr.2 (by trivial)); clear hr; have hbf : Below w9.heap.size w9 wf := hbd.trans (hb.mono hbd.size); obtain ⟨⟨hq0, hq1, hq2, hq3, hq4⟩, ⟨hr0, hr1, hr2, hr3, hr4⟩, ⟨hx0, hx1, hx2, hx3, hx4⟩, ⟨hy0, hy1, hy2, hy3, hy4⟩⟩ := HKK.out _ hbf)
        | fail)
    all_goals go_wp2_with fail
    all_goals go_meet
    all_goals exact ⟨rfl, Lib.hid hbf⟩
  case rest =>
  obtain ⟨rfl, HBW⟩ := hcut
  obtain ⟨w10, rfl⟩ : ∃ w10 : World, w10 = wc := ⟨_, rfl⟩
  clear hq0 hq1 hq2 hq3 hq4 hr0 hr1 hr2 hr3 hr4 hx0 hx1 hx2 hx3 hx4 hy0 hy1 hy2 hy3 hy4 HKK
  replace HC0 := Lib.hid (HC0.out.trans (HBW.out.mono HC0.out.size))
  replace HC1 := Lib.hid (HC1.out.trans (HBW.out.mono HC1.out.size))
  have HB10 := Lib.hid (HB9.out.next HBW.out)
  have HD10 := Lib.hid (HD9.out.later HBW.out)
  have HX10 := Lib.hid (HX19.out.next HBW.out)
  clear HB9 HD9 HX9 HX19 HBW HC6 HC8 HSA HSB HKX HL1 HL2
  have hl10 := HB10.out.lt
  have hgz : g14 ≠ g19 := by omega
  go_upto_region 9 with fail
  have hk0 := HB10.out.one
  have HKK := Lib.hid (fun (W : World) (hW : Below w10.heap.size w10 W) => (HKB.out W (HC1.out.trans (hW.mono HC1.out.size))).2.2)
  obtain ⟨hz0, hz1, hz2, hz3, hz4⟩ := HKK.out _ (Below.refl _ w10)
  go_cut [21] (fun s21 wx => ∃ (pf : Option Addr) (nf cf : Nat), s21 = .int .i64 0 ∧ Hid (IsD wx 0 (.slice pf nf cf) F3) ∧ Hid (Bx wx g14 [.slice pf nf cf]) ∧ Hid (Bx wx g19 [.int .i64 (sy.step : Int), .int .i64 (sy.phase : Int), .bool sy.fresh, .slice l5 m5 t5, .slice l6 m6 t6]) ∧ Hid (Below g14 w10 wx))
  case first =>
    go_region_with (first
      | (go_at_call 17; refine (HKZ.out w10.drew (HC0.out.trans ((Below.refl _ w10).drew.mono HC0.out.size))).mono ?_; rintro e w11 ⟨vs, rfl, hs, hb⟩; have hbk : Below w10.heap.size w10 w11 := ((Below.refl _ w10).drew).trans hb; have HSV := Lib.hid hs.isSv; clear hs; have hk0 := (HB10.out.next hbk).one; obtain ⟨hz0, hz1, hz2, hz3, hz4⟩ := HKK.out _ hbk)
      | (go_at_call 21; refine (HPU2.out _ _ _ (HD10.out.later hbk) HSV.out).mono ?_; rintro e w12 ⟨pf, nf, cf, rfl, hf, hb7⟩; have hbx : Below w10.heap.size w10 w12 := hbk.trans (hb7.mono hbk.size); obtain ⟨hv, hvf⟩ := (HB10.out.next hbx).one')
      | fail)
    all_goals go_wp2_with fail
    all_goals go_meet
    all_goals exact ⟨pf, nf, cf, rfl, Lib.hid ((hf.setCell (a := ⟨g14, 0, none⟩) (by show g14 < w11.heap.size; exact Nat.lt_of_lt_of_le hl10 hbk.size) (.slice pf nf cf)).mono (Nat.zero_le _)), Lib.hid ((HB10.out.next hbx).setc 0 _), Lib.hid (bx_oth (HX10.out.next hbx) (a := ⟨g14, 0, none⟩) (Ne.symm hgz) _), Lib.hid ((hbx.mono (Nat.le_of_lt hl10)).setCell (Nat.le_refl _) _)⟩
  case rest =>
  obtain ⟨pi, ni, ci, rfl, HD12, HB12, HX12, HBW⟩ := hcut
  obtain ⟨w12, rfl⟩ : ∃ w12 : World, w12 = wc := ⟨_, rfl⟩
  replace HC0 := Lib.hid (HC0.out.trans (HBW.out.mono le_HC0))
  replace HC1 := Lib.hid (HC1.out.trans (HBW.out.mono le_HC1))
  clear hk0 hz0 hz1 hz2 hz3 hz4 HKK HD10 HB10 HX10 HBW hl10 HPU2
  have hk0 := HB12.out.one
  have hl12 := HB12.out.lt
  go_wp2_with fail
  refine (HSE.out _ _ HD12.out).mono ?_; rintro e w13 ⟨pj, nj, cj, rfl, hd, hb⟩
  have V := HB12.out.next hb
  obtain ⟨hv, hvf⟩ := V.one'
  have HD13 := Lib.hid ((hd.setCell (a := ⟨g14, 0, none⟩) (by show g14 < _; exact hl12) (.slice pj nj cj)).mono (Nat.zero_le _))
  have HB13 := Lib.hid (V.setc 0 (.slice pj nj cj))
  have HX13 := Lib.hid (bx_oth (HX12.out.next hb) (a := ⟨g14, 0, none⟩) (Ne.symm hgz) (.slice pj nj cj))
  replace HC0 := Lib.hid (HC0.out.trans (hb.mono HC0.out.size))
  replace HC1 := Lib.hid (HC1.out.trans (hb.mono HC1.out.size))
  replace HC0 := Lib.hid (HC0.out.setCell (p := ⟨g14, 0, none⟩) le_HC0 (.slice pj nj cj))
  replace HC1 := Lib.hid (HC1.out.setCell (p := ⟨g14, 0, none⟩) le_HC1 (.slice pj nj cj))
  clear hb hd V hk0 HD12 HB12 HX12 hl12
  have hk0 := HB13.out.one
  go_upto_region 11 with fail
  generalize hw14 : (w13.setCell ⟨g14, 0, none⟩ (.slice pj nj cj)) = w14 at *
  clear hw14 hv hvf
  have hl19 := HX13.out.lt
  go_wp2_with fail
  refine (HL3.out _ _ HD13.out).mono ?_; rintro e w15 ⟨vc, rfl, hs, hb⟩
  replace HC0 := Lib.hid (HC0.out.trans (hb.mono HC0.out.size))
  replace HC1 := Lib.hid (HC1.out.trans (hb.mono HC1.out.size))
  have HB15 := Lib.hid (HB13.out.next hb)
  have HD15 := Lib.hid (HD13.out.later hb)
  have HX15 := Lib.hid (HX13.out.next hb)
  have HS15 := Lib.hid hs
  obtain ⟨n5, n6, o5, s5, o6, s6, rfl, -, -⟩ := hs
  clear hb HB13 HD13 HX13 hk0
  obtain ⟨b23, B23, z23⟩ := boxed0 w15 [.int .i64 (sz.step : Int), .int .i64 (sz.phase : Int), .bool sz.fresh, .slice n5 o5 s5, .slice n6 o6 s6] 51
  have hl15 := HX15.out.lt
  replace HC0 := Lib.hid (HC0.out.trans (b23.mono HC0.out.size))
  replace HC1 := Lib.hid (HC1.out.trans (b23.mono HC1.out.size))
  have HB16 := Lib.hid (HB15.out.next b23)
  have HD16 := Lib.hid (HD15.out.later b23)
  have HX16 := Lib.hid (HX15.out.next b23)
  have HS16 := Lib.hid (HS15.out.later b23)
  have hk0 := HB16.out.one
  have hsb := HSUB.out
  clear b23 HB15 HD15 HX15 HS15
  go_wp2_with fail
  generalize hw16 : (w15.alloc (.cells #[.int .i64 (sz.step : Int), .int .i64 (sz.phase : Int), .bool sz.fresh, .slice n5 o5 s5, .slice n6 o6 s6] 51)) = w16 at *
  clear hw16
  obtain ⟨g23, hge⟩ : ∃ g23, g23 = w15.heap.size := ⟨_, rfl⟩
  rw [← hge] at B23 z23 hl15 ⊢
  clear hge
  have HX23 := Lib.hid B23
  have hl16 := HX16.out.lt
  clear B23
  refine (HL4.out _ _ HD16.out).mono ?_; rintro e w17 ⟨vd, rfl, hs, hb⟩
  replace HC0 := Lib.hid (HC0.out.trans (hb.mono HC0.out.size))
  replace HC1 := Lib.hid (HC1.out.trans (hb.mono HC1.out.size))
  have HX17 := Lib.hid (HX23.out.next hb)
  have HY17 := Lib.hid (HX16.out.next hb)
  have HS17 := Lib.hid (HS16.out.later hb)
  have HT17 := Lib.hid hs
  obtain ⟨u5, u6, y5, x5, y6, x6, rfl, -, -⟩ := hs
  obtain ⟨hr0, hr1, hr2, hr3, hr4⟩ := HY17.out.five
  obtain ⟨hf0, hf1, hf2, hf3, hf4⟩ := HY17.out.fiveF
  have HS18 := Lib.hid (HS17.out.set5 hl19 (.int .i64 (sy.step : Int)) (.int .i64 (sy.phase : Int)) (.bool sy.fresh) (.slice u5 y5 x5) (.slice u6 y6 x6))
  have HT18 := Lib.hid (HT17.out.set5 hl16 (.int .i64 (sy.step : Int)) (.int .i64 (sy.phase : Int)) (.bool sy.fresh) (.slice u5 y5 x5) (.slice u6 y6 x6))
  have HX18 := Lib.hid (bx_oth (bx_oth (bx_oth (bx_oth (bx_oth HX17.out (a := ⟨g19, 0, none⟩) (by show g23 ≠ g19; omega) (.int .i64 (sy.step : Int))) (a := ⟨g19, 1, none⟩) (by show g23 ≠ g19; omega) (.int .i64 (sy.phase : Int))) (a := ⟨g19, 2, none⟩) (by show g23 ≠ g19; omega) (.bool sy.fresh)) (a := ⟨g19, 3, none⟩) (by show g23 ≠ g19; omega) (.slice u5 y5 x5)) (a := ⟨g19, 4, none⟩) (by show g23 ≠ g19; omega) (.slice u6 y6 x6))
  have HY18 := Lib.hid (((((HY17.out.setc 0 (.int .i64 (sy.step : Int))).setc 1 (.int .i64 (sy.phase : Int))).setc 2 (.bool sy.fresh)).setc 3 (.slice u5 y5 x5)).setc 4 (.slice u6 y6 x6))
  replace HC0 := Lib.hid (setc5 HC0.out lf_HC0 (.int .i64 (sy.step : Int)) (.int .i64 (sy.phase : Int)) (.bool sy.fresh) (.slice u5 y5 x5) (.slice u6 y6 x6))
  replace HC1 := Lib.hid (setc5 HC1.out lf_HC1 (.int .i64 (sy.step : Int)) (.int .i64 (sy.phase : Int)) (.bool sy.fresh) (.slice u5 y5 x5) (.slice u6 y6 x6))
  clear hb hk0 hsb HB16 HD16 HX16 HS16 HX23 HX17 HY17 HS17 HT17
  go_upto_region 13 with fail
  generalize hw18 : (((((w17.setCell ⟨g19, 0, none⟩ (.int .i64 (sy.step : Int))).setCell ⟨g19, 1, none⟩ (.int .i64 (sy.phase : Int))).setCell ⟨g19, 2, none⟩ (.bool sy.fresh)).setCell ⟨g19, 3, none⟩ (.slice u5 y5 x5)).setCell ⟨g19, 4, none⟩ (.slice u6 y6 x6)) = w18 at *
  clear hw18 hr0 hr1 hr2 hr3 hr4 hf0 hf1 hf2 hf3 hf4
  have HZ18 := Lib.hid (show Bx w18 g19 [.int .i64 (sy.step : Int), .int .i64 (sy.phase : Int), .bool sy.fresh, .slice u5 y5 x5, .slice u6 y6 x6] from HY18.out)
  have HKK := Lib.hid (fun (W : World) (hW : Below w18.heap.size w18 W) => (⟨(HX18.out.next hW).five, (HZ18.out.next hW).five, (HKB.out W (HC1.out.trans (hW.mono HC1.out.size))).2.2, (HKB.out W (HC1.out.trans (hW.mono HC1.out.size))).2.1⟩ : _ ∧ _ ∧ _ ∧ _))
  clear HX18 HY18 HZ18
  obtain ⟨⟨hq0, hq1, hq2, hq3, hq4⟩, ⟨hr0, hr1, hr2, hr3, hr4⟩, ⟨hx0, hx1, hx2, hx3, hx4⟩, ⟨hy0, hy1, hy2, hy3, hy4⟩⟩ := HKK.out _ (Below.refl _ w18)
  go_region_held3 (fun w' => ((w'.cell? ⟨g23, 0, none⟩ = some (Value.int .i64 (sz.step : Int)) ∧ w'.cell? ⟨g23, 1, none⟩ = some (Value.int .i64 (sz.phase : Int)) ∧ w'.cell? ⟨g23, 2, none⟩ = some (Value.bool sz.fresh) ∧ w'.cell? ⟨g23, 3, none⟩ = some (Value.slice n5 o5 s5) ∧ w'.cell? ⟨g23, 4, none⟩ = some (Value.slice n6 o6 s6)) ∧ (w'.cell? ⟨g19, 0, none⟩ = some (Value.int .i64 (sy.step : Int)) ∧ w'.cell? ⟨g19, 1, none⟩ = some (Value.int .i64 (sy.phase : Int)) ∧ w'.cell? ⟨g19, 2, none⟩ = some (Value.bool sy.fresh) ∧ w'.cell? ⟨g19, 3, none⟩ = some (Value.slice u5 y5 x5) ∧ w'.cell? ⟨g19, 4, none⟩ = some (Value.slice u6 y6 x6))) ∧ ((w'.cell? ⟨g + 1 + 1, 0, none⟩ = some (Value.int .i64 zs) ∧ w'.cell? ⟨g + 1 + 1, 1, none⟩ = some (Value.int .i64 zp) ∧ w'.cell? ⟨g + 1 + 1, 2, none⟩ = some (Value.bool fr'') ∧ w'.cell? ⟨g + 1 + 1, 3, none⟩ = some (Value.slice r3 raw''.length e3) ∧ w'.cell? ⟨g + 1 + 1, 4, none⟩ = some (Value.slice r4 rawm''.length e4)) ∧ (w'.cell? ⟨g + 1, 0, none⟩ = some (Value.int .i64 ys) ∧ w'.cell? ⟨g + 1, 1, none⟩ = some (Value.int .i64 yp) ∧ w'.cell? ⟨g + 1, 2, none⟩ = some (Value.bool fr') ∧ w'.cell? ⟨g + 1, 3, none⟩ = some (Value.slice q3 raw'.length d3) ∧ w'.cell? ⟨g + 1, 4, none⟩ = some (Value.slice q4 rawm'.length d4)))) (first | (exact ⟨⟨⟨hq0, hq1, hq2, hq3, hq4⟩, ⟨hr0, hr1, hr2, hr3, hr4⟩⟩, ⟨hx0, hx1, hx2, hx3, hx4⟩, ⟨hy0, hy1, hy2, hy3, hy4⟩⟩) | go_keep)
    (first
      | (go_at_call 17; (with_reducible refine (HKZ.out w18.drew (HC0.out.trans ((Below.refl _ w18).drew.mono HC0.out.size))).mono ?_); rintro e wa ⟨vs, rfl, hs, hb⟩; have hba : Below w18.heap.size w18 wa := ((Below.refl _ w18).drew).trans hb; have HSa := Lib.hid hs.isSv; clear hs; obtain ⟨⟨hq0, hq1, hq2, hq3, hq4⟩, ⟨hr0, hr1, hr2, hr3, hr4⟩, ⟨hx0, hx1, hx2, hx3, hx4⟩, ⟨hy0, hy1, hy2, hy3, hy4⟩⟩ := HKK.out _ hba)
      | (go_at_call 25; (with_reducible refine (HSS.out sz _ _ wa (HS18.out.isSv.later hba) HSa.out).mono ?_); rintro e wb ⟨r, rfl, hr, hb⟩; obtain rfl : r = true := (hr.2 (by trivial)); clear hr; have hbb : Below w18.heap.size w18 wb := hba.trans (hb.mono hba.size); obtain ⟨⟨hq0, hq1, hq2, hq3, hq4⟩, ⟨hr0, hr1, hr2, hr3, hr4⟩, ⟨hx0, hx1, hx2, hx3, hx4⟩, ⟨hy0, hy1, hy2, hy3, hy4⟩⟩ := HKK.out _ hbb)
      | (go_at_call 17; (with_reducible refine (HKY.out wb (HC0.out.trans (hbb.mono HC0.out.size))).mono ?_); rintro e wd ⟨vs2, rfl, hs, hb⟩; have hbd : Below w18.heap.size w18 wd := hbb.trans (hb.mono hbb.size); have HSd := Lib.hid hs.isSv; clear hs; obtain ⟨⟨hq0, hq1, hq2, hq3, hq4⟩, ⟨hr0, hr1, hr2, hr3, hr4⟩, ⟨hx0, hx1, hx2, hx3, hx4⟩, ⟨hy0, hy1, hy2, hy3, hy4⟩⟩ := HKK.out _ hbd)
      | (go_at_call 25; (with_reducible refine (HSS.out sy _ _ wd (HT18.out.isSv.later hbd) HSd.out).mono ?_); rintro e wf ⟨r, rfl, hr, hb⟩; obtain rfl : r = true := (hr.2 (by trivial)); clear hr; have hbf : Below w18.heap.size w18 wf := hbd.trans (hb.mono hbd.size); obtain ⟨⟨hq0, hq1, hq2, hq3, hq4⟩, ⟨hr0, hr1, hr2, hr3, hr4⟩, ⟨hx0, hx1, hx2, hx3, hx4⟩, ⟨hy0, hy1, hy2, hy3, hy4⟩⟩ := HKK.out _ hbf)
      | fail)
  all_goals go_wp2_with fail
  all_goals go_ret
  all_goals exact ⟨rfl, HC0.out.trans (hbf.mono HC0.out.size)⟩
end Go.Proofs.YtmdbcknlipahgaaDoor
