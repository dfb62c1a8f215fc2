/- The walk of the law CkptNewest. Printed by gennew.py. -/
import Derived.Test.YtmdbcknlipahgaaDoorSealed
import Derived.Test.YtmdbcknlipahgaaDoorNewest
namespace Go.Proofs.YtmdbcknlipahgaaDoor
open Go.RowKit Go.Sort Go.Proofs
/-- the best step of two -/
def bestN (s t : Sv) (m : Nat) : Int := max (if s.step ≤ m then (s.step : Int) else -1) (if t.step ≤ m then (t.step : Int) else -1)
/-- what Newest finds, whichever slot holds which -/
def Found (s t : Sv) (m : Nat) (o : Option Sv) : Prop := match o with
  | none => ¬ s.step ≤ m ∧ ¬ t.step ≤ m
  | some b => (b.step : Int) = bestN s t m ∧ (b = s ∨ b = t) ∧ 0 ≤ bestN s t m
theorem found_best (s t : Sv) (m : Nat) : Found s t m (bestO s t m 2) := by
  have e0 : bestO s t m 2 = pickB (if s.step ≤ m then some s else none) t m := rfl
  rw [e0]
  by_cases h1 : s.step ≤ m
  · have e1 : pickB (some s) t m = if t.step ≤ m ∧ s.step < t.step then some t else some s := rfl
    rw [if_pos h1, e1]
    by_cases h2 : t.step ≤ m
    · by_cases h3 : s.step < t.step
      · rw [if_pos ⟨h2, h3⟩]
        refine ⟨?_, .inr rfl, ?_⟩ <;> (unfold bestN; rw [if_pos h1, if_pos h2]; omega)
      · rw [if_neg (fun h => h3 h.2)]
        refine ⟨?_, .inl rfl, ?_⟩ <;> (unfold bestN; rw [if_pos h1, if_pos h2]; omega)
    · rw [if_neg (fun h => h2 h.1)]
      refine ⟨?_, .inl rfl, ?_⟩ <;> (unfold bestN; rw [if_pos h1, if_neg h2]; omega)
  · have e1 : pickB none t m = if t.step ≤ m then some t else none := rfl
    rw [if_neg h1, e1]
    by_cases h2 : t.step ≤ m
    · rw [if_pos h2]
      refine ⟨?_, .inr rfl, ?_⟩ <;> (unfold bestN; rw [if_neg h1, if_pos h2]; omega)
    · rw [if_neg h2]
      exact ⟨h1, h2⟩
theorem bestN_comm (s t : Sv) (m : Nat) : bestN s t m = bestN t s m := by unfold bestN; omega
theorem found_comm {s t : Sv} {m : Nat} {o : Option Sv} (h : Found s t m o) : Found t s m o := by
  cases o with
  | none => exact ⟨h.2, h.1⟩
  | some b =>
    obtain ⟨h1, h2, h3⟩ := h
    exact ⟨by rw [bestN_comm]; exact h1, h2.symm, by rw [bestN_comm]; exact h3⟩
theorem newestK (n : Nat) (hn : n < 2) (p0 : Option Addr) (n0 c0 : Nat) (x y : KeptR) (m : Nat) (w : World) (hD : IsD w 0 (.slice p0 n0 c0) (twoF n x y)) :
    Calls Tryd.prog 27 #[.agg #[.slice p0 n0 c0], .int .i64 (m : Int)] w fun e w' => ∃ o, Found (keptS x) (keptS y) m o ∧ NewP o w e w' := by
  have hnm := nm3_of n hn
  have fx := flOk_wh hnm.oka (encK_allB x) (by have := encK_len x; omega)
  have fy := flOk_wh hnm.okb (encK_allB y) (by have := encK_len y; omega)
  have D2 : DkOk (twoF n x y) := dk2 fx fy hnm.ab
  obtain rfl | rfl : n = 0 ∨ n = 1 := by omega
  · exact (newest_ok p0 n0 c0 _ x y m w hD D2 (rdF_one _ _ _) (rdF_two hnm.ab _ _ _)).mono fun e w' h => ⟨_, found_best _ _ _, h⟩
  · exact (newest_ok p0 n0 c0 _ y x m w hD D2 (rdF_two hnm.ab _ _ _) (rdF_one _ _ _)).mono fun e w' h => ⟨_, found_comm (found_best _ _ _), h⟩
set_option maxHeartbeats 16000000 in
set_option maxRecDepth 100000 in
theorem ckptNewest_walk (w : World) (v0 : Value) (x : KeptR) (h0 : IsKp w v0 x) (v1 : Value) (y : KeptR) (h1 : IsKp w v1 y) (a3 : Int) (h30 : -9223372036854775808 ≤ a3) (h31 : a3 ≤ 9223372036854775807) (a4 : Int) (h40 : -9223372036854775808 ≤ a4) (h41 : a4 ≤ 9223372036854775807) :
    Calls Tryd.prog 9 #[v0, v1, .int .i64 a3, .int .i64 a4] w fun e w' => e = .returned (.bool true) ∧ Below w.heap.size w w' := by
  have HKX := Lib.hid (fun (W : World) (hW : Below w.heap.size w W) => kept_ok v0 x W (h0.later hW))
  have HKY := Lib.hid (fun (W : World) (hW : Below w.heap.size w W) => kept_ok v1 y W (h1.later hW))
  have HSD := Lib.hid (fun (W : World) (hW : Below w.heap.size w W) => sealed_ok W v0 v1 x y (h0.later hW) (h1.later hW) a3 h30 h31)
  have HP2 := Lib.hid (fun W => picked_i a4 100001 100001 W rfl h40 h41 (by omega) (by omega))
  have hn := pickN_lt a3 (m := 2) (by omega)
  generalize pickN a3 2 = n at *
  generalize pickN a4 100001 = k at *
  have HNW := Lib.hid (fun (p0 : Option Addr) (n0 c0 : Nat) (W : World) (h : IsD W 0 (.slice p0 n0 c0) (twoF n x y)) => newestK n hn p0 n0 c0 x y k W h)
  have HSS := Lib.hid (fun (s t : Sv) (v u : Value) (W : World) (h1 : IsSv W v s) (h2 : IsSv W u t) => sameSaved_says v u s t W h1 h2)
  obtain ⟨p3, c3, p4, c4, rfl⟩ := h0.val
  obtain ⟨q3, d3, q4, d4, rfl⟩ := h1.val
  clear h0 h1 h30 h31 h40 h41
  generalize twoF n x y = F2 at *
  generalize keptS x = sx at *
  generalize keptS y = sy at *
  obtain ⟨xs, xp, fr, raw, rawm⟩ := x
  obtain ⟨ys, yp, fr', raw', rawm'⟩ := y
  dsimp only at *
  obtain ⟨b1, B1, z1⟩ := boxed0 w [.int .i64 xs, .int .i64 xp, .bool fr, .slice p3 raw.length c3, .slice p4 rawm.length c4] 47
  have hs1 : (w.alloc (.cells #[.int .i64 xs, .int .i64 xp, .bool fr, .slice p3 raw.length c3, .slice p4 rawm.length c4] 47)).heap.size = w.heap.size + 1 := by simp
  obtain ⟨b2, B2, z2⟩ := boxed0 (w.alloc (.cells #[.int .i64 xs, .int .i64 xp, .bool fr, .slice p3 raw.length c3, .slice p4 rawm.length c4] 47)) [.int .i64 ys, .int .i64 yp, .bool fr', .slice q3 raw'.length d3, .slice q4 rawm'.length d4] 47
  have HC0 := Lib.hid (b1.trans (b2.mono (by omega)))
  have X1 := B1.next b2
  have X2 := B2
  rw [hs1] at X2
  have HKB := Lib.hid (fun (W : World) (hW : Below ((w.alloc (.cells #[.int .i64 xs, .int .i64 xp, .bool fr, .slice p3 raw.length c3, .slice p4 rawm.length c4] 47)).alloc (.cells #[.int .i64 ys, .int .i64 yp, .bool fr', .slice q3 raw'.length d3, .slice q4 rawm'.length d4] 47)).heap.size ((w.alloc (.cells #[.int .i64 xs, .int .i64 xp, .bool fr, .slice p3 raw.length c3, .slice p4 rawm.length c4] 47)).alloc (.cells #[.int .i64 ys, .int .i64 yp, .bool fr', .slice q3 raw'.length d3, .slice q4 rawm'.length d4] 47)) W) => (⟨(X1.next hW).five, (X2.next hW).five⟩ : _ ∧ _))
  have HC1 := Lib.hid (Below.refl ((w.alloc (.cells #[.int .i64 xs, .int .i64 xp, .bool fr, .slice p3 raw.length c3, .slice p4 rawm.length c4] 47)).alloc (.cells #[.int .i64 ys, .int .i64 yp, .bool fr', .slice q3 raw'.length d3, .slice q4 rawm'.length d4] 47)).heap.size ((w.alloc (.cells #[.int .i64 xs, .int .i64 xp, .bool fr, .slice p3 raw.length c3, .slice p4 rawm.length c4] 47)).alloc (.cells #[.int .i64 ys, .int .i64 yp, .bool fr', .slice q3 raw'.length d3, .slice q4 rawm'.length d4] 47)))
  clear b1 b2 B1 B2 z1 z2 X1 X2
  go_enter Tryd.func9, Tryd.ntmps9
  obtain ⟨⟨hx0, hx1, hx2, hx3, hx4⟩, ⟨hy0, hy1, hy2, hy3, hy4⟩⟩ := HKB.out _ HC1.out
  go_wp2_with fail
  clear hs1
  generalize ((w.alloc (.cells #[.int .i64 xs, .int .i64 xp, .bool fr, .slice p3 raw.length c3, .slice p4 rawm.length c4] 47)).alloc (.cells #[.int .i64 ys, .int .i64 yp, .bool fr', .slice q3 raw'.length d3, .slice q4 rawm'.length d4] 47)) = w0 at *
  obtain ⟨g, hg⟩ : ∃ g, g = w.heap.size := ⟨_, rfl⟩
  rw [← hg] at HKB hx0 hx1 hx2 hx3 hx4 hy0 hy1 hy2 hy3 hy4 ⊢
  clear hg
  refine (HSD.out _ HC0.out).mono ?_; rintro e w1 ⟨pa, ca, rfl, hd, hb⟩
  replace HC0 := Lib.hid (HC0.out.trans (hb.mono HC0.out.size))
  replace HC1 := Lib.hid (HC1.out.trans (hb.mono HC1.out.size))
  clear hb hx0 hx1 hx2 hx3 hx4 hy0 hy1 hy2 hy3 hy4
  obtain ⟨b9, B9, z9⟩ := boxed0 w1 [.slice pa 2 ca] 61
  replace HC0 := Lib.hid (HC0.out.trans (b9.mono HC0.out.size))
  replace HC1 := Lib.hid (HC1.out.trans (b9.mono HC1.out.size))
  have HD := Lib.hid ((hd.later b9).mono (Nat.zero_le _))
  have HB9 := Lib.hid B9
  obtain ⟨⟨hx0, hx1, hx2, hx3, hx4⟩, -⟩ := HKB.out _ HC1.out
  clear hd b9 B9
  go_wp2_with fail
  generalize hw2 : (w1.alloc (.cells #[.slice pa 2 ca] 61)) = w2 at *
  clear hw2
  obtain ⟨g9, hge⟩ : ∃ g9, g9 = w1.heap.size := ⟨_, rfl⟩
  rw [← hge] at HB9 z9 ⊢
  clear hge
  refine (HKX.out _ HC0.out).mono ?_; rintro e w3 ⟨va, rfl, hs, hb⟩
  replace HC0 := Lib.hid (HC0.out.trans (hb.mono HC0.out.size))
  replace HC1 := Lib.hid (HC1.out.trans (hb.mono HC1.out.size))
  have HB3 := Lib.hid (HB9.out.next hb)
  have HD3 := Lib.hid (HD.out.later hb)
  have HS3 := Lib.hid hs.isSv
  obtain ⟨i5, i6, j5, k5, j6, k6, rfl, -, -⟩ := hs
  have HC3 := Lib.hid (Below.refl w3.heap.size w3)
  clear hb HB9 HD hx0 hx1 hx2 hx3 hx4
  obtain ⟨b11, B11, z11⟩ := boxed0 w3 [.int .i64 (sx.step : Int), .int .i64 (sx.phase : Int), .bool sx.fresh, .slice i5 j5 k5, .slice i6 j6 k6] 51
  replace HC0 := Lib.hid (HC0.out.trans (b11.mono HC0.out.size))
  replace HC1 := Lib.hid (HC1.out.trans (b11.mono HC1.out.size))
  replace HC3 := Lib.hid (HC3.out.trans (b11.mono HC3.out.size))
  have HB4 := Lib.hid (HB3.out.next b11)
  have HD4 := Lib.hid (HD3.out.later b11)
  have HX11 := Lib.hid B11
  clear b11 B11 HB3 HD3
  obtain ⟨-, ⟨hy0, hy1, hy2, hy3, hy4⟩⟩ := HKB.out _ HC1.out
  go_wp2_with fail
  generalize hw4 : (w3.alloc (.cells #[.int .i64 (sx.step : Int), .int .i64 (sx.phase : Int), .bool sx.fresh, .slice i5 j5 k5, .slice i6 j6 k6] 51)) = w4 at *
  clear hw4
  obtain ⟨g11, hge⟩ : ∃ g11, g11 = w3.heap.size := ⟨_, rfl⟩
  rw [← hge] at HX11 z11 ⊢
  clear hge
  refine (HKY.out _ HC0.out).mono ?_; rintro e w5 ⟨vb, rfl, hs, hb⟩
  replace HC0 := Lib.hid (HC0.out.trans (hb.mono HC0.out.size))
  replace HC1 := Lib.hid (HC1.out.trans (hb.mono HC1.out.size))
  replace HC3 := Lib.hid (HC3.out.trans (hb.mono HC3.out.size))
  have HB5 := Lib.hid (HB4.out.next hb)
  have HD5 := Lib.hid (HD4.out.later hb)
  have HY11 := Lib.hid (HX11.out.next hb)
  have HS5 := Lib.hid hs.isSv
  obtain ⟨l5, l6, m5, t5, m6, t6, rfl, -, -⟩ := hs
  have HC5 := Lib.hid (Below.refl w5.heap.size w5)
  clear hb HB4 HD4 HX11 hy0 hy1 hy2 hy3 hy4
  obtain ⟨b12, B12, z12⟩ := boxed0 w5 [.int .i64 (sy.step : Int), .int .i64 (sy.phase : Int), .bool sy.fresh, .slice l5 m5 t5, .slice l6 m6 t6] 51
  replace HC0 := Lib.hid (HC0.out.trans (b12.mono HC0.out.size))
  replace HC1 := Lib.hid (HC1.out.trans (b12.mono HC1.out.size))
  replace HC3 := Lib.hid (HC3.out.trans (b12.mono HC3.out.size))
  replace HC5 := Lib.hid (HC5.out.trans (b12.mono HC5.out.size))
  have HB6 := Lib.hid (HB5.out.next b12)
  have HD6 := Lib.hid (HD5.out.later b12)
  have HZ11 := Lib.hid (HY11.out.next b12)
  have HZ12 := Lib.hid B12
  clear b12 B12 HB5 HD5 HY11
  go_wp2_with fail
  generalize hw6 : (w5.alloc (.cells #[.int .i64 (sy.step : Int), .int .i64 (sy.phase : Int), .bool sy.fresh, .slice l5 m5 t5, .slice l6 m6 t6] 51)) = w6 at *
  clear hw6
  obtain ⟨g12, hge⟩ : ∃ g12, g12 = w5.heap.size := ⟨_, rfl⟩
  rw [← hge] at HZ12 z12 ⊢
  clear hge
  refine (HP2.out _).mono ?_; rintro e wn ⟨rfl, rfl⟩
  have hk0 := HB6.out.one
  go_wp2_with fail
  refine (HNW.out _ _ _ _ HD6.out).mono ?_; rintro e w7 ⟨o, hfo, hb, hnp⟩
  replace HC0 := Lib.hid (HC0.out.trans (hb.mono HC0.out.size))
  replace HC1 := Lib.hid (HC1.out.trans (hb.mono HC1.out.size))
  replace HC3 := Lib.hid (HC3.out.trans (hb.mono HC3.out.size))
  replace HC5 := Lib.hid (HC5.out.trans (hb.mono HC5.out.size))
  have HX7 := Lib.hid (HZ11.out.next hb)
  have HY7 := Lib.hid (HZ12.out.next hb)
  clear hb hk0 HB6 HD6 HZ11 HZ12
  cases o with
  | none =>
    dsimp only at hnp
    subst hnp
    obtain ⟨hf1, hf2⟩ := hfo
    obtain ⟨b14, B14, z14⟩ := boxed0 w7 [.int .i64 0, .int .i64 0, .bool false, .slice none 0 0, .slice none 0 0] 51
    obtain ⟨hq0, hq1, hq2, hq3, hq4⟩ := B14.five
    obtain ⟨hx0, hx1, hx2, hx3, hx4⟩ := (HX7.out.next b14).five
    obtain ⟨hy0, hy1, hy2, hy3, hy4⟩ := (HY7.out.next b14).five
    have HF := Lib.hid (HC0.out.trans (b14.mono HC0.out.size))
    have e1 : decide ((sx.step : Int) ≤ (k : Int)) = false := by simp; omega
    have e2 : decide (sx.step ≤ k) = false := by simp; omega
    have e3 : decide ((sy.step : Int) ≤ (k : Int)) = false := by simp; omega
    have e4 : decide (sy.step ≤ k) = false := by simp; omega
    clear b14 B14 z14 hf1 hf2
    go_wp2_with fail
    go_ret
    exact ⟨rfl, HF.out⟩
  | some b =>
    obtain ⟨v, rfl, hsv⟩ := hnp
    have HSV := Lib.hid hsv
    obtain ⟨u5, u6, y5, x5, y6, x6, rfl, -, -⟩ := hsv
    obtain ⟨hbn, hbe, hb0⟩ := hfo
    have HC7 := Lib.hid (Below.refl w7.heap.size w7)
    obtain ⟨b14, B14, z14⟩ := boxed0 w7 [.int .i64 (b.step : Int), .int .i64 (b.phase : Int), .bool b.fresh, .slice u5 y5 x5, .slice u6 y6 x6] 51
    obtain ⟨hq0, hq1, hq2, hq3, hq4⟩ := B14.five
    have HX8 := Lib.hid (HX7.out.next b14)
    have HY8 := Lib.hid (HY7.out.next b14)
    have HZ8 := Lib.hid B14
    obtain ⟨hx0, hx1, hx2, hx3, hx4⟩ := HX8.out.five
    obtain ⟨hy0, hy1, hy2, hy3, hy4⟩ := HY8.out.five
    have HSV8 := Lib.hid (HSV.out.later b14)
    have HSX8 := Lib.hid (HS3.out.later (HC3.out.trans (b14.mono HC3.out.size)))
    have HSY8 := Lib.hid (HS5.out.later (HC5.out.trans (b14.mono HC5.out.size)))
    have HF := Lib.hid (HC0.out.trans (b14.mono HC0.out.size))
    have HBE := Lib.hid hbe
    have HBN := Lib.hid hbn
    have HB0 := Lib.hid hb0
    clear b14 B14 z14 hbe hbn hb0 HX7 HY7
    have hmax : ∀ a c : Int, max a c = if a ≤ c then c else a := fun a c => by omega
    by_cases h1 : sx.step ≤ k
    · have e1 : decide ((sx.step : Int) ≤ (k : Int)) = true := by simp; omega
      have e2 : decide (sx.step ≤ k) = true := by simp; omega
      by_cases h2 : sy.step ≤ k
      · have e3 : decide ((sy.step : Int) ≤ (k : Int)) = true := by simp; omega
        have e4 : decide (sy.step ≤ k) = true := by simp; omega
        have hbv : (b.step : Int) = max (sx.step : Int) (sy.step : Int) := by rw [HBN.out]; unfold bestN; rw [if_pos h1, if_pos h2]
        have e5 : ((b.step : Int) == max (sx.step : Int) (sy.step : Int)) = true := by rw [← hbv]; simp
        have e6 : decide (max (sx.step : Int) (sy.step : Int) < 0) = false := by rw [← hbv]; simp
        have e7 : ¬ max (sx.step : Int) (sy.step : Int) < 0 := by rw [← hbv]; omega
        clear h1 h2 hbv hmax
        go_wp2_with fail
        refine (HSS.out b sx _ _ _ HSV8.out HSX8.out).mono ?_; rintro e w9 ⟨r, rfl, hr, hb⟩
        have HF9 := Lib.hid (HF.out.trans (hb.mono HF.out.size))
        by_cases hbx : b = sx
        · obtain rfl : r = true := hr.2 hbx
          clear hb hr hbx
          go_wp2_with fail
          go_ret
          exact ⟨rfl, HF9.out⟩
        · obtain rfl : r = false := by
            cases r with
            | false => rfl
            | true => exact absurd (hr.1 rfl) hbx
          have hby : b = sy := HBE.out.resolve_left hbx
          have HBY := Lib.hid hby
          obtain ⟨hq0, hq1, hq2, hq3, hq4⟩ := (HZ8.out.next hb).five
          obtain ⟨hy0, hy1, hy2, hy3, hy4⟩ := (HY8.out.next hb).five
          have HV9 := Lib.hid (HSV8.out.later hb)
          have HY9 := Lib.hid (HSY8.out.later hb)
          clear hr hbx hby hb
          go_wp2_with fail
          refine (HSS.out b sy _ _ _ HV9.out HY9.out).mono ?_; rintro e wa ⟨r, rfl, hr, hb⟩
          obtain rfl : r = true := hr.2 HBY.out
          have HFA := Lib.hid (HF9.out.trans (hb.mono HF9.out.size))
          clear hr hb
          go_wp2_with fail
          go_ret
          exact ⟨rfl, HFA.out⟩
      · have e3 : decide ((sy.step : Int) ≤ (k : Int)) = false := by simp; omega
        have e4 : decide (sy.step ≤ k) = false := by simp; omega
        have hbv : (b.step : Int) = (sx.step : Int) := by rw [HBN.out]; unfold bestN; rw [if_pos h1, if_neg h2]; omega
        have e5 : ((b.step : Int) == (sx.step : Int)) = true := by rw [← hbv]; simp
        have e6 : (b.step == sx.step) = true := by simp; omega
        clear h1 h2 hbv hmax
        go_wp2_with fail
        refine (HSS.out b sx _ _ _ HSV8.out HSX8.out).mono ?_; rintro e w9 ⟨r, rfl, hr, hb⟩
        have HF9 := Lib.hid (HF.out.trans (hb.mono HF.out.size))
        by_cases hbx : b = sx
        · obtain rfl : r = true := hr.2 hbx
          clear hb hr hbx
          go_wp2_with fail
          go_ret
          exact ⟨rfl, HF9.out⟩
        · obtain rfl : r = false := by
            cases r with
            | false => rfl
            | true => exact absurd (hr.1 rfl) hbx
          have hby : b = sy := HBE.out.resolve_left hbx
          have HBY := Lib.hid hby
          obtain ⟨hq0, hq1, hq2, hq3, hq4⟩ := (HZ8.out.next hb).five
          obtain ⟨hy0, hy1, hy2, hy3, hy4⟩ := (HY8.out.next hb).five
          have HV9 := Lib.hid (HSV8.out.later hb)
          have HY9 := Lib.hid (HSY8.out.later hb)
          clear hr hbx hby hb
          go_wp2_with fail
          refine (HSS.out b sy _ _ _ HV9.out HY9.out).mono ?_; rintro e wa ⟨r, rfl, hr, hb⟩
          obtain rfl : r = true := hr.2 HBY.out
          have HFA := Lib.hid (HF9.out.trans (hb.mono HF9.out.size))
          clear hr hb
          go_wp2_with fail
          go_ret
          exact ⟨rfl, HFA.out⟩
    · have e1 : decide ((sx.step : Int) ≤ (k : Int)) = false := by simp; omega
      have e2 : decide (sx.step ≤ k) = false := by simp; omega
      by_cases h2 : sy.step ≤ k
      · have e3 : decide ((sy.step : Int) ≤ (k : Int)) = true := by simp; omega
        have e4 : decide (sy.step ≤ k) = true := by simp; omega
        have hbv : (b.step : Int) = max (-1) (sy.step : Int) := by rw [HBN.out]; unfold bestN; rw [if_neg h1, if_pos h2]
        have e5 : ((b.step : Int) == max (-1) (sy.step : Int)) = true := by rw [← hbv]; simp
        have e6 : decide (max (-1) (sy.step : Int) < 0) = false := by rw [← hbv]; simp
        have e7 : ¬ max (-1) (sy.step : Int) < 0 := by rw [← hbv]; omega
        clear h1 h2 hbv hmax
        go_wp2_with fail
        refine (HSS.out b sx _ _ _ HSV8.out HSX8.out).mono ?_; rintro e w9 ⟨r, rfl, hr, hb⟩
        have HF9 := Lib.hid (HF.out.trans (hb.mono HF.out.size))
        by_cases hbx : b = sx
        · obtain rfl : r = true := hr.2 hbx
          clear hb hr hbx
          go_wp2_with fail
          go_ret
          exact ⟨rfl, HF9.out⟩
        · obtain rfl : r = false := by
            cases r with
            | false => rfl
            | true => exact absurd (hr.1 rfl) hbx
          have hby : b = sy := HBE.out.resolve_left hbx
          have HBY := Lib.hid hby
          obtain ⟨hq0, hq1, hq2, hq3, hq4⟩ := (HZ8.out.next hb).five
          obtain ⟨hy0, hy1, hy2, hy3, hy4⟩ := (HY8.out.next hb).five
          have HV9 := Lib.hid (HSV8.out.later hb)
          have HY9 := Lib.hid (HSY8.out.later hb)
          clear hr hbx hby hb
          go_wp2_with fail
          refine (HSS.out b sy _ _ _ HV9.out HY9.out).mono ?_; rintro e wa ⟨r, rfl, hr, hb⟩
          obtain rfl : r = true := hr.2 HBY.out
          have HFA := Lib.hid (HF9.out.trans (hb.mono HF9.out.size))
          clear hr hb
          go_wp2_with fail
          go_ret
          exact ⟨rfl, HFA.out⟩
      · have h3 := HB0.out
        unfold bestN at h3
        rw [if_neg h1, if_neg h2] at h3
        omega
end Go.Proofs.YtmdbcknlipahgaaDoor
