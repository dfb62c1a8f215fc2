/- The walk of pacelinekeep.ran. -/
import Derived.Test.YtiaflhlfodcbjaaRdRun
namespace Go.Proofs.Ytiaflhlfodcbjaa
open Go.RowKit
/-- what a state that is done answers -/
def ansF (kind : Nat) (s : RSt) : List Int := s.vals.map fun x => if kind = 3 then x.2 else x.1
theorem ansF_len (kind : Nat) (s : RSt) : (ansF kind s).length = s.vals.length := by simp [ansF]
theorem ansF_take (kind : Nat) (s : RSt) {k : Nat} (h : k < s.vals.length) : its ((ansF kind s).take (k + 1)) = its ((ansF kind s).take k) ++ [.int .i64 (if kind = 3 then s.vals[k].2 else s.vals[k].1)] := by
  rw [List.take_succ_eq_append_getElem (by rw [ansF_len]; exact h), its_snoc1]
  simp [ansF]
set_option maxHeartbeats 4000000 in
set_option maxRecDepth 100000 in
theorem answer_ok (p : Option Addr) (c n N kind : Nat) (src : Int) (E : List Eg) (v : Value) (s : RSt) (w : World) (h : JobOk w p c n N kind src E) (hv : RdSt w 0 N v s) (hG : GoodS kind N s) (hst : s.step ≤ 900) (hd : s.done = true) :
    Calls Try.prog 34 #[jobV p c n N kind src, v] w fun e w' => ∃ q d, e = .returned (.tuple #[.slice q N d, .int .i64 0]) ∧ w'.ownsRow w.heap.size 3 1 (.slice q N d) N (its (ansF kind s)) ∧ Below w.heap.size w w' := by
  have HCH := Lib.hid (fun (W : World) (hW : Below w.heap.size w W) => jcheck_ok p c n N kind src E W (h.later hW))
  have HMY := Lib.hid (fun (W : World) (hW : Below w.heap.size w W) => jmay_ok p c n N kind src E v s W (h.later hW) (hv.later hW) hG (by omega))
  obtain ⟨pv, pm, cv, cm, rfl, hsv, -, hvl⟩ := hv
  obtain ⟨pv', cv', e, hncv, hcv63⟩ := hsv.val
  cases e
  rw [hd] at HMY ⊢
  have HV := Lib.hid hsv
  have HVL := Lib.hid hvl
  have hN1 := h.N1
  have hN10 := h.N10
  clear h hG hsv hvl hst hd
  unfold jobV at *
  obtain ⟨b1, B1, z1⟩ := boxed0 w [.int .i64 (N : Int), .slice p n c, .int .i64 (kind : Int), .int .i64 src] 27
  generalize hw1 : (w.alloc (.cells #[.int .i64 (N : Int), .slice p n c, .int .i64 (kind : Int), .int .i64 src] 27)) = w1 at *
  have hs1 : w1.heap.size = w.heap.size + 1 := by rw [← hw1]; simp
  obtain ⟨b2, B2, z2⟩ := boxed0 w1 [.int .i64 (s.step : Int), .int .i64 (s.phase : Int), .bool s.fresh, .bool true, .slice pv N cv, .slice pm N cm] 32
  generalize hw2 : (w1.alloc (.cells #[.int .i64 (s.step : Int), .int .i64 (s.phase : Int), .bool s.fresh, .bool true, .slice pv N cv, .slice pm N cm] 32)) = w2 at *
  have HB0 := Lib.hid (b1.trans (b2.mono (by omega)))
  have HX := Lib.hid (B1.next b2)
  have HY := Lib.hid (show Bx w2 (w.heap.size + 1) _ from by have h1 := B2; rw [hs1] at h1; exact h1)
  obtain ⟨hx0, hx1, hx2, hx3, _⟩ := HX.out.four
  obtain ⟨hy0, hy1, hy2, hy3, hy4, hy5⟩ := HY.out.six
  clear b1 b2 B1 B2 z1 z2
  go_enter Try.func34, Try.ntmps34
  go_upto_region 1 with fail
  clear hw1 hw2 hs1
  obtain ⟨g, hg⟩ : ∃ g, g = w.heap.size := ⟨_, rfl⟩
  have HG := Lib.hid hg
  rw [← hg] at HX HY hx0 hx1 hx2 hx3 hy0 hy1 hy2 hy3 hy4 hy5 ⊢
  clear hg
  go_wp2_with fail
  refine (HCH.out _ HB0.out).mono ?_; rintro e w4 ⟨rfl, hb4⟩
  have HB4 := Lib.hid (HB0.out.trans (hb4.mono HB0.out.size))
  have HX4 := Lib.hid (HX.out.next hb4)
  have HY4 := Lib.hid (HY.out.next hb4)
  obtain ⟨hx0, hx1, hx2, hx3, _⟩ := HX4.out.four
  obtain ⟨hy0, hy1, hy2, hy3, hy4, hy5⟩ := HY4.out.six
  clear hb4 HX HY HB0 HCH
  go_wp2_with fail
  refine (HMY.out _ HB4.out).mono ?_; rintro e w5 ⟨rfl, hb5⟩
  have HB5 := Lib.hid (HB4.out.trans (hb5.mono HB4.out.size))
  have HX5 := Lib.hid (HX4.out.next hb5)
  have HY5 := Lib.hid (HY4.out.next hb5)
  obtain ⟨hx0, hx1, hx2, hx3, _⟩ := HX5.out.four
  obtain ⟨hy0, hy1, hy2, hy3, hy4, hy5⟩ := HY5.out.six
  clear hb5 HX4 HY4 HB4 HMY
  go_wp2_with fail
  obtain ⟨B, hB⟩ : ∃ B, B = w5.heap.size := ⟨_, rfl⟩
  have hBB : B ≤ w5.heap.size := Nat.le_of_eq hB
  have hgB : g + 1 < B := by rw [hB]; exact HY5.out.lt
  have HBX := Lib.hid (show ∀ W, Below B w5 W → W.cell? ⟨g, 2, none⟩ = some (.int .i64 (kind : Int)) from fun W hW => (HX5.out.later hW (by omega)).four.2.2.1)
  have HWW := Lib.hid (show ∀ W, Below B w5 W → Below w.heap.size w W from fun W hW => HB5.out.trans (hW.mono (by rw [hB]; exact HB5.out.size)))
  have HGB := Lib.hid (show w.heap.size ≤ B from by rw [hB]; exact HB5.out.size)
  clear hB HX5 HY5 HB5 hx0 hx1 hx2 hx3 hy0 hy1 hy2 hy3 hy4 hy5
  go_loopg [25, 7] N (fun gk v25 v7 wr => ∃ (k : Nat) (p' : Option Addr) (c' : Nat), v25 = .int .i64 (k : Int) ∧ k + gk = N ∧ v7 = .slice p' k c' ∧ wr.ownsRow B 3 1 (.slice p' k c') k (its ((ansF kind s).take k)) ∧ Hid (Below B w5 wr) ∧ B ≤ wr.heap.size)
  case atStart => exact ⟨0, none, 0, rfl, by omega, rfl, World.ownsRow_nil _ _ _ _, Lib.hid (Below.refl _ _), hBB⟩
  case round =>
    clear hBB
    obtain ⟨k, p', c', rfl, hgk, rfl, hown, HB, hsz⟩ := hrel
    have HGK := Lib.hid hgk
    have hk : k ≤ N := by omega
    clear hgk
    have hx2 := HBX.out _ HB.out
    by_cases hlt : k < N
    · have hd1 : decide ((k : Int) < (N : Int)) = true := by simp; omega
      have hd2 : decide (k < N) = true := by simp; omega
      have hk0 : (0 : Int) ≤ (k : Int) := by omega
      have hkn : (k : Int) < (N : Int) := by omega
      have hkv : k < s.vals.length := by have := HVL.out; omega
      obtain ⟨b, off, rfl, hc0, hc1⟩ := (HV.out.1.later (HWW.out _ HB.out)).vl hkv
      have HT := Lib.hid (ansF_take kind s hkv)
      generalize s.vals[k] = x at *
      obtain ⟨x1, x2⟩ := x
      dsimp only at hc0 hc1 HT
      clear hlt
      go_upto_region 12 with fail
      obtain ⟨b8, B8, z8⟩ := boxed0 wr [.int .i64 x1, .int .i64 x2] 40
      obtain ⟨w8, hw8⟩ : ∃ w8 : World, w8 = wr.alloc (.cells #[.int .i64 x1, .int .i64 x2] 40) := ⟨_, rfl⟩
      obtain ⟨g9, hg9⟩ : ∃ g9, g9 = wr.heap.size := ⟨_, rfl⟩
      have e8 : (wr.alloc (.cells (List.toArray [Value.int .i64 x1, Value.int .i64 x2]) 40)) = w8 := hw8.symm
      rw [e8] at b8 B8 z8
      have hown8 := own_later hown b8
      have HB8 := Lib.hid (HB.out.trans (b8.mono hsz))
      have hsz8 : B ≤ w8.heap.size := Nat.le_trans hsz b8.size
      rw [← hw8, ← hg9]
      rw [← hg9] at B8
      obtain ⟨hy0, hy1, _, _⟩ := B8.two
      have hx2 := HBX.out _ HB8.out
      clear hw8 hg9 e8 b8 B8 z8 hc0 hc1 hown HB hsz
      by_cases h3 : kind = 3
      · have he : ((kind : Int) == 3) = true := by simp [h3]
        rw [if_pos h3] at HT
        clear h3
        go_wp2_with (at_builtin; refine wp_app1h (w0 := w8) rfl (.tmp 32) (.tmp 35) _ rfl B 3 rfl inf_int rfl (by decide) rfl hown8 (us := [.int .i64 x2]) rfl rfl rfl (by simp [Value.oneCell']) (by unfold maxLen; omega) (by omega) (Below.refl _ w8) hsz8 ?_; intro p3 c3 w3 hown3 hb3 hs3 hg3 hnb3; rw [← HT.out] at hown3; have HB3 := Lib.hid (HB8.out.trans hb3); have HO3 := Lib.hid hown3; clear hown3 hown8 hy0 hy1)
        go_roundg (N - (k + 1))
        case measure => have := HGK.out; omega
        case rel => exact ⟨k + 1, p3, c3, by go_num, by omega, rfl, HO3.out, HB3, hs3⟩
      · have he : ((kind : Int) == 3) = false := by simp; omega
        rw [if_neg h3] at HT
        clear h3
        go_wp2_with (at_builtin; refine wp_app1h (w0 := w8) rfl (.tmp 37) (.tmp 40) _ rfl B 3 rfl inf_int rfl (by decide) rfl hown8 (us := [.int .i64 x1]) rfl rfl rfl (by simp [Value.oneCell']) (by unfold maxLen; omega) (by omega) (Below.refl _ w8) hsz8 ?_; intro p3 c3 w3 hown3 hb3 hs3 hg3 hnb3; rw [← HT.out] at hown3; have HB3 := Lib.hid (HB8.out.trans hb3); have HO3 := Lib.hid hown3; clear hown3 hown8 hy0 hy1)
        go_roundg (N - (k + 1))
        case measure => have := HGK.out; omega
        case rel => exact ⟨k + 1, p3, c3, by go_num, by omega, rfl, HO3.out, HB3, hs3⟩
    · obtain rfl : k = N := by omega
      have hd1 : decide ((k : Int) < (k : Int)) = false := by simp
      have hd2 : decide (k < k) = false := by simp
      have HO := Lib.hid (show wr.ownsRow B 3 1 (.slice p' k c') k (its (ansF kind s)) from by
        rw [List.take_of_length_le (by rw [ansF_len, HVL.out]; exact Nat.le_refl _)] at hown; exact hown)
      clear hown hlt
      go_wp2_with fail
      refine bodyPost_ret (v := .tuple #[.slice p' k c', .int .i64 0]) ?_ rfl ⟨_, _, rfl, own_mono HO.out HGB.out, HWW.out _ HB.out⟩
      first
        | exact results_tmp2 rfl
        | (rw [results_tmp2 rfl]; go_simp)
end Go.Proofs.Ytiaflhlfodcbjaa
namespace Go.Proofs.Ytiaflhlfodcbjaa
open Go.RowKit
theorem results_tct {fn : Func} {t p u : Tmp} {ty : TypeId} (h : fn.results = #[.tmp t, .cell p ty, .tmp u]) (tmps : Array Value) (P : Program) (w : World) :
    (results fn tmps).run P w =
      ((asAddr (tmps.getD p undef)).run P w).andThen fun a w₁ => ((loadVar ty a).run P w₁).andThen fun v w₂ => .ok (.tuple #[tmps.getD t undef, v, tmps.getD u undef]) w₂ := by
  simp only [results, h]
  simp [Sem.run_bind, Result.andThen]
set_option maxHeartbeats 4000000 in
set_option maxRecDepth 100000 in
theorem ran_ok (p : Option Addr) (c n N kind K : Nat) (src : Int) (E : List Eg) (w : World) (h : JobOk w p c n N kind src E) (hE20 : E.length ≤ 20) (hK : RunsIn kind src N E K) :
    Calls Try.prog 17 #[jobV p c n N kind src] w fun e w' => ∃ q d v', e = .returned (.tuple #[.slice q N d, v', .bool true]) ∧ w'.ownsRow w.heap.size 3 1 (.slice q N d) N (its (ansF kind (itF (nextF kind src N E) K (beginF N)))) ∧ RdSt w' w.heap.size N v' (itF (nextF kind src N E) K (beginF N)) ∧ Below w.heap.size w w' := by
  have HRN := Lib.hid (fun (W : World) (hW : Below w.heap.size w W) => run_ok p c n N kind K src E W (h.later hW) hE20 hK)
  have hgd := it_good (kind := kind) (src := src) h.g ⟨h.N1, h.N10⟩ hE20 K
  have hdn := hK.ends.last.1
  have hK230 := hK.K2
  have HAN := Lib.hid (fun (v : Value) (W : World) (hW : Below w.heap.size w W) (hv : RdSt W 0 N v (itF (nextF kind src N E) K (beginF N))) => answer_ok p c n N kind src E v _ W (h.later hW) hv hgd.1 (by omega) hdn)
  have HDN := Lib.hid hdn
  clear h hK hgd hdn hK230
  obtain ⟨sF, hsF⟩ : ∃ sF, sF = itF (nextF kind src N E) K (beginF N) := ⟨_, rfl⟩
  rw [← hsF] at HRN HAN HDN ⊢
  clear hsF
  unfold jobV at *
  obtain ⟨b1, B1, z1⟩ := boxed0 w [.int .i64 (N : Int), .slice p n c, .int .i64 (kind : Int), .int .i64 src] 27
  generalize hw1 : (w.alloc (.cells #[.int .i64 (N : Int), .slice p n c, .int .i64 (kind : Int), .int .i64 src] 27)) = w1 at *
  have hs1 : w1.heap.size = w.heap.size + 1 := by rw [← hw1]; simp
  obtain ⟨b2, B2, z2⟩ := boxed0 w1 [.int .i64 0, .int .i64 0, .bool false, .bool false, .slice none 0 0, .slice none 0 0] 32
  generalize hw2 : (w1.alloc (.cells #[.int .i64 0, .int .i64 0, .bool false, .bool false, .slice none 0 0, .slice none 0 0] 32)) = w2 at *
  have hs2 : w2.heap.size = w.heap.size + 2 := by rw [← hw2]; simp; omega
  have HB2 := Lib.hid (b1.trans (b2.mono (by omega)))
  have HX := Lib.hid (B1.next b2)
  have HZ := Lib.hid (show Bx w2 (w.heap.size + 1) _ from by have h1 := B2; rw [hs1] at h1; exact h1)
  obtain ⟨hx0, hx1, hx2, hx3, _⟩ := HX.out.four
  clear b1 b2 B1 B2 z1 z2
  go_enter Try.func17, Try.ntmps17
  go_upto_region 1 with fail
  have HS2 := Lib.hid hs2
  clear hw1 hw2 hs1 hs2
  obtain ⟨g, hg⟩ : ∃ g, g = w.heap.size := ⟨_, rfl⟩
  have HG := Lib.hid hg
  rw [← hg] at HX HZ HS2 hx0 hx1 hx2 hx3 ⊢
  clear hg
  go_wp2_with fail
  refine (HRN.out _ HB2.out).mono ?_; rintro e w3 ⟨v3, rfl, hs3, hb3⟩
  obtain ⟨pv, pm, cv, cm, rfl, hsv, hsm, hvl⟩ := hs3
  have HX3 := Lib.hid (HX.out.next hb3)
  have HZ3 := Lib.hid (HZ.out.next hb3)
  have HB3 := Lib.hid (HB2.out.trans (hb3.mono HB2.out.size))
  have HSV3 := Lib.hid (show RdSt w3 (g + 2) N (.agg #[.int .i64 (sF.step : Int), .int .i64 (sF.phase : Int), .bool sF.fresh, .bool sF.done, .slice pv N cv, .slice pm N cm]) sF from by rw [← HS2.out]; exact ⟨pv, pm, cv, cm, rfl, hsv, hsm, hvl⟩)
  rw [HDN.out] at HSV3 ⊢
  have hg3 : g + 1 < w3.heap.size := HZ3.out.lt
  clear hsv hsm hvl hb3 HX HZ HB2 hx0 hx1 hx2 hx3
  obtain ⟨b4, B4, z4⟩ := boxed0 w3 [.int .i64 (sF.step : Int), .int .i64 (sF.phase : Int), .bool sF.fresh, .bool true, .slice pv N cv, .slice pm N cm] 32
  go_upto_region 2 with fail
  obtain ⟨w4, hw4⟩ : ∃ w4 : World, w4 = w3.alloc (.cells #[.int .i64 (sF.step : Int), .int .i64 (sF.phase : Int), .bool sF.fresh, .bool true, .slice pv N cv, .slice pm N cm] 32) := ⟨_, rfl⟩
  obtain ⟨g4, hg4⟩ : ∃ g4, g4 = w3.heap.size := ⟨_, rfl⟩
  have hw4' : (w3.alloc (.cells (List.toArray [Value.int .i64 (sF.step : Int), .int .i64 (sF.phase : Int), .bool sF.fresh, .bool true, .slice pv N cv, .slice pm N cm]) 32)) = w4 := hw4.symm
  rw [hw4'] at b4 B4 z4
  have HX4 := Lib.hid (HX3.out.next b4)
  have HZ4 := Lib.hid (HZ3.out.next b4)
  have HB4 := Lib.hid (HB3.out.trans (b4.mono HB3.out.size))
  have HT4 := Lib.hid (HSV3.out.later b4)
  rw [← hg4] at B4 hg3
  have HS4 := Lib.hid B4
  rw [← hw4, ← hg4]
  obtain ⟨hx0, hx1, hx2, hx3, _⟩ := HX4.out.four
  obtain ⟨ht0, ht1, ht2, ht3, ht4, ht5⟩ := HS4.out.six
  clear hw4 hw4' hg4 b4 B4 z4 HSV3 HX3 HZ3 HB3 HRN
  go_wp2_with fail
  refine (HAN.out _ w4 HB4.out (HT4.out.mono (Nat.zero_le _))).mono ?_; rintro e w5 ⟨q, d, rfl, ho5, hb5⟩
  have HT5 := Lib.hid (HT4.out.later hb5)
  have HZ5 := Lib.hid (HZ4.out.next hb5)
  have HB5 := Lib.hid (HB4.out.trans (hb5.mono HB4.out.size))
  have HS5 := Lib.hid (HS4.out.next hb5)
  have HO5 := Lib.hid ho5
  have h45 : g + 2 ≤ w4.heap.size := by have := HS4.out.lt; omega
  obtain ⟨ht0, ht1, ht2, ht3, ht4, ht5⟩ := HS5.out.six
  obtain ⟨hz0, hz1, hz2, hz3, hz4, hz5⟩ := HZ5.out.six
  obtain ⟨hh0, hh1, hh2, hh3, hh4, hh5⟩ := HZ5.out.sixF
  clear hb5 ho5 hx0 hx1 hx2 hx3 HX4 HZ4 HB4 HT4 HS4
  go_upto_region 3 with fail
  go_region
  have HG1 := Lib.hid (show w.heap.size ≤ g + 1 from by have := HG.out; omega)
  have HS6 := Lib.hid (RdSt.set6 HT5.out (show g + 1 < g + 2 from Nat.lt_succ_self _) (.int .i64 (sF.step : Int)) (.int .i64 (sF.phase : Int)) (.bool sF.fresh) (.bool true) (.slice pv N cv) (.slice pm N cm))
  have HO6 := Lib.hid (show (((((((w5.setCell ⟨g + 1, 0, none⟩ (.int .i64 (sF.step : Int))).setCell ⟨g + 1, 1, none⟩ (.int .i64 (sF.phase : Int))).setCell ⟨g + 1, 2, none⟩ (.bool sF.fresh)).setCell ⟨g + 1, 3, none⟩ (.bool true)).setCell ⟨g + 1, 4, none⟩ (.slice pv N cv)).setCell ⟨g + 1, 5, none⟩ (.slice pm N cm))).ownsRow (g + 2) 3 1 (.slice q N d) N (its (ansF kind sF)) from own_setCell (own_setCell (own_setCell (own_setCell (own_setCell (own_setCell (own_mono HO5.out h45) (a := ⟨g + 1, 0, none⟩) (Nat.lt_succ_self _) _) (a := ⟨g + 1, 1, none⟩) (Nat.lt_succ_self _) _) (a := ⟨g + 1, 2, none⟩) (Nat.lt_succ_self _) _) (a := ⟨g + 1, 3, none⟩) (Nat.lt_succ_self _) _) (a := ⟨g + 1, 4, none⟩) (Nat.lt_succ_self _) _) (a := ⟨g + 1, 5, none⟩) (Nat.lt_succ_self _) _)
  go_wp2_with fail
  refine bodyPost_ret (v := .tuple #[.slice q N d, .agg #[.int .i64 (sF.step : Int), .int .i64 (sF.phase : Int), .bool sF.fresh, .bool true, .slice pv N cv, .slice pm N cm], .bool true]) ?_ rfl ⟨_, _, _, rfl, ?_, ?_, ?_⟩
  · rw [results_tct rfl]
    go_simp
  · exact own_mono (own_drew HO6.out) (by have := HG.out; omega)
  · exact (HS6.out.later (Below.refl _ _).drew).mono (by have := HG.out; omega)
  · exact (setc6 HB5.out HG1.out _ _ _ _ _ _).drew
end Go.Proofs.Ytiaflhlfodcbjaa
