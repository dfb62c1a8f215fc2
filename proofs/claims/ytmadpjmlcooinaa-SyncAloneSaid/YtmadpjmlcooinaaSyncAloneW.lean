/- The walk of the law SyncAlone. -/
import Derived.Test.YtmadpjmlcooinaaDone
import Derived.Test.YtmadpjmlcooinaaPSy
namespace Go.Proofs.Ytmadpjmlcooinaa
open Go.RowKit
set_option linter.unusedVariables false in
set_option maxHeartbeats 8000000 in
set_option maxRecDepth 100000 in
theorem syncAlone_walk (w : World) (v0 : Value) (L : List Nt) (h0 : IsNt w v0 L) (x : Int) (hx0 : -9223372036854775808 ≤ x) (hx1 : x ≤ 9223372036854775807) (y : Int) (hy0 : -9223372036854775808 ≤ y) (hy1 : y ≤ 9223372036854775807) (z : Int) (hz0 : -9223372036854775808 ≤ z) (hz1 : z ≤ 9223372036854775807) :
    Calls Try.prog 12 #[v0, .int .i64 x, .int .i64 y, .int .i64 z] w fun e w' => e = .returned (.bool true) ∧ Below w.heap.size w w' := by
  have HDN := Lib.hid (done_ok v0 L w h0)
  have HNX := Lib.hid (fun w' => name_ok x w' hx0 hx1)
  have HNY := Lib.hid (fun w' => name_ok y w' hy0 hy1)
  have HPZ := Lib.hid (fun w' => picked_i z 40 40 w' rfl hz0 hz1 (by omega) (by omega))
  obtain ⟨p0, c0, rfl, _⟩ := h0.val
  clear h0
  have hxa := pickN_lt x (m := 4) (by omega)
  have hya := pickN_lt y (m := 4) (by omega)
  have hza := pickN_lt z (m := 40) (by omega)
  generalize pickN x 4 = a at *
  generalize pickN y 4 = b at *
  generalize pickN z 40 = k at *
  go_enter Try.func12, Try.ntmps12
  go_wp2_with fail
  refine HDN.out.mono ?_; rintro e w1 ⟨p, c, l, rfl, HD, hR, hb1⟩
  obtain ⟨b2, B2, z2⟩ := boxed0 w1 [.slice p l.length c] 75
  have hR2 := hR.later b2
  have hb2 := below_next hb1 (Nat.le_refl _) b2
  go_wp2_with fail
  generalize (w1.alloc (.cells #[.slice p l.length c] 75)) = w2 at *
  refine (HNX.out _).mono ?_; rintro e w3 ⟨rfl, hb3⟩
  go_wp2_with fail
  refine (HNY.out _).mono ?_; rintro e w4 ⟨rfl, hb4⟩
  have hb24 := hb3.trans (hb4.mono hb3.size)
  have HB4 := Lib.hid (B2.next hb24)
  have HR4 := Lib.hid (hR2.later hb24)
  have hw4 := Lib.hid (below_next hb2 (Nat.le_refl _) hb24)
  have hk4 := HB4.out.one
  clear hb24 hb3 hb4 hR2 hb2 b2 B2 z2 hR hb1
  have HDK := Lib.hid (HD.out.dk (by omega))
  have hix := ixF_le (l.map (·.1)) (nmC a)
  rw [List.length_map] at hix
  rcases hrd : rdF (l.map (·.1)) (nmC a) with _ | d0
  · have HSY := Lib.hid (fun W hW => sync_miss (nmC a) _ l W ((HR4.out.later hW).mono (Nat.zero_le _)) HDK.out (by have h := rdF_none hrd; rw [List.length_map] at h; exact h))
    have HRD := Lib.hid (fun W hW => read_miss (nmC a) _ l W ((HR4.out.later hW).mono (Nat.zero_le _)) HDK.out hrd)
    clear hrd hix
    go_wp2_with fail
    refine (HSY.out _ (Below.refl _ _)).mono ?_; rintro e w5 ⟨rfl, hb5⟩
    have hb46 := Lib.hid (hb5.trans ((alloc_below w5 (.cells #[.slice none 0 0] 75)).mono hb5.size))
    have hk6 := (HB4.out.next hb46.out).one
    have hkz := (show Bx (w5.alloc (.cells #[.slice none 0 0] 75)) w5.heap.size [.slice none 0 0] from bx_new w5 _ _).one
    have HZ := Lib.hid (show Bx (w5.alloc (.cells #[.slice none 0 0] 75)) w5.heap.size [.slice none 0 0] from bx_new w5 _ _)
    go_wp2_with fail
    refine (HRD.out _ hb46.out).mono ?_; rintro e w7 ⟨rfl, hb7⟩
    have hk7 := (HZ.out.next hb7).one
    have hfin := Lib.hid ((hw4.out.trans (hb46.out.mono hw4.out.size)).trans (hb7.mono (Nat.le_trans hw4.out.size hb46.out.size)))
    go_wp2_with fail
    go_ret
    exact ⟨rfl, hfin.out⟩
  · have hlt : ixF (l.map (·.1)) (nmC a) < l.length := by
      obtain ⟨h, _⟩ := rdF_some hrd
      rw [List.length_map] at h; exact h
    have HSY := Lib.hid (fun W hW => sync_hit (nmC a) _ l W ((HR4.out.later hW).mono (Nat.zero_le _)) HDK.out hlt)
    have hpos : 0 < l.length := by omega
    have HQ := Lib.hid hrd
    clear hlt hrd hix
    go_wp2_with fail
    refine (HSY.out _ (Below.refl _ _)).mono ?_; rintro e w5 ⟨ps, cs, ls, rfl, hms, hrs, hb5⟩
    have HDs := Lib.hid (show DnOk 20 (ls.map (·.1)) by rw [hms.out]; exact HD.out.syn)
    have hls : ls.length = l.length := by have := congrArg List.length hms.out; rw [syF_len] at this; simpa using this
    have hposs : 0 < ls.length := by omega
    have hpi : (0 : Int) < (ls.length : Int) := by omega
    have HMS := hms
    have hRs := Lib.hid (hrs.later (alloc_below w5 (.cells #[.slice ps ls.length cs] 75)))
    have hb46 := Lib.hid (hb5.trans ((alloc_below w5 (.cells #[.slice ps ls.length cs] 75)).mono hb5.size))
    have HZ := Lib.hid (show Bx (w5.alloc (.cells #[.slice ps ls.length cs] 75)) w5.heap.size [.slice ps ls.length cs] from bx_new w5 _ _)
    have hk6 := (HB4.out.next hb46.out).one
    have hkz := HZ.out.one
    clear hls hms hrs hb5
    go_wp2_with fail
    obtain ⟨gs, hgs⟩ : ∃ gs, gs = w5.heap.size := ⟨_, rfl⟩
    rw [← hgs] at HZ ⊢
    clear hgs hkz
    generalize (w5.alloc (.cells #[.slice ps ls.length cs] 75)) = w6 at *
    have HDB := Lib.hid (fun (W : World) (hW : Below w6.heap.size w6 W) => (show W.cell? ⟨w1.heap.size, 0, none⟩ = some (.slice p l.length c) ∧ W.cell? ⟨gs, 0, none⟩ = some (.slice ps ls.length cs) from ⟨((HB4.out.next hb46.out).next hW).one, (HZ.out.next hW).one⟩))
    have hw6 := Lib.hid (hw4.out.trans (hb46.out.mono hw4.out.size))
    have HRd := Lib.hid (fun W (hW : Below w6.heap.size w6 W) => ((HR4.out.later hb46.out).later hW).mono (Nat.zero_le _))
    have HRs := Lib.hid (fun W (hW : Below w6.heap.size w6 W) => (hRs.out.later hW).mono (Nat.zero_le _))
    have HC1 := Lib.hid (fun W (hW : Below w6.heap.size w6 W) => crash_ok _ l k W (HRd.out W hW) HDK.out (by omega))
    have HC2 := Lib.hid (fun W (hW : Below w6.heap.size w6 W) => crash_ok _ ls k W (HRs.out W hW) (HDs.out.dk (by omega)) (by omega))
    have HF1 := Lib.hid (fun W (hW : Below w6.heap.size w6 W) => read_u (nmC b) _ l _ W (HRd.out W hW) HD.out rfl)
    have HF2 := Lib.hid (fun W (hW : Below w6.heap.size w6 W) => read_u (nmC b) _ ls (rdF (l.map (·.1)) (nmC b)) W (HRs.out W hW) HDs.out (by rw [HMS.out, rdF_syF]))
    have HF8 := Lib.hid (fun W (hW : Below w6.heap.size w6 W) => (show Calls Try.prog 28 #[.agg #[.slice p l.length c], .string (nmC a)] W fun e w' => ∃ q c, e = .returned (.tuple #[.slice q d0.length c, .int .i64 0]) ∧ Hid (IsB w' (.slice q d0.length c) d0) ∧ Below W.heap.size W w' from read_u (nmC a) _ l (some d0) W (HRd.out W hW) HD.out HQ.out))
    have ho1 : ∀ o : Option (List Nat), Hid (rdF (l.map (·.1)) (nmC b) = o) → Hid (rdF (l.map (·.1)) (nmC b) = o) := fun _ h => h
    clear ho1
    have hcur : Below w6.heap.size w6 w6 := Below.refl _ _
    have HO3 := Lib.hid (show a = b → ∃ ob, rdF (crF (l.map (·.1)) k) (nmC b) = some ob from fun e => by
      rcases h : rdF (crF (l.map (·.1)) k) (nmC b) with _ | ob
      · have h2 := (rdF_crF k (nmC b) _).1 h
        have h3 := HQ.out
        rw [e, h2] at h3; cases h3
      · exact ⟨ob, h⟩)
    have HO4 := Lib.hid (show a ≠ b → rdF (crF (syF (l.map (·.1)) (nmC a)) k) (nmC b) = rdF (crF (l.map (·.1)) k) (nmC b) from fun e => rdF_crF_syF_ne k (fun h => e (nmC_inj hxa hya h)) _)
    have HO5 := Lib.hid (rdF_crF_syF (nmC a) k (l.map (·.1)))
    generalize (rdF (l.map (·.1)) (nmC b)).getD [] = L1 at *
    generalize erO (rdF (l.map (·.1)) (nmC b)) = e1 at *
    refine (HF1.out _ hcur).mono ?_; rintro e w7 ⟨q7, c7, rfl, I7, hb7⟩
    replace hcur := below_next hcur (Nat.le_refl _) hb7
    obtain ⟨hkd, hks⟩ := HDB.out w7 hcur
    go_wp2_with fail
    refine (HF2.out _ hcur).mono ?_; rintro e w8 ⟨q8, c8, rfl, I8, hb8⟩
    have J7 := Lib.hid (I7.out.later hb8)
    replace hcur := below_next hcur (Nat.le_refl _) hb8
    obtain ⟨hkd, hks⟩ := HDB.out w8 hcur
    clear I7 hb7 hb8
    go_wp2_with fail
    refine (HPZ.out _).mono ?_; rintro e w' ⟨rfl, rfl⟩
    go_wp2_with fail
    refine (HC1.out _ hcur).mono ?_; rintro e w9 ⟨po, co, lo, rfl, hmo, hro, hb9⟩
    have hb10 := hb9.trans ((alloc_below w9 (.cells #[.slice po lo.length co] 75)).mono hb9.size)
    have HOx := Lib.hid (show Bx (w9.alloc (.cells #[.slice po lo.length co] 75)) w9.heap.size [.slice po lo.length co] from bx_new w9 _ _)
    have HRo := Lib.hid (hro.later (alloc_below w9 (.cells #[.slice po lo.length co] 75)))
    have K7 := Lib.hid (J7.out.later hb10)
    have K8 := Lib.hid (I8.out.later hb10)
    replace hcur := below_next hcur (Nat.le_refl _) hb10
    obtain ⟨hkd, hks⟩ := HDB.out _ hcur
    clear J7 I8 hb9 hb10 hro
    go_wp2_with fail
    obtain ⟨go', hgo⟩ : ∃ go', go' = w9.heap.size := ⟨_, rfl⟩
    rw [← hgo] at HOx ⊢
    clear hgo
    generalize (w9.alloc (.cells #[.slice po lo.length co] 75)) = w10 at *
    refine (HC2.out _ hcur).mono ?_; rintro e w11 ⟨pn, cn, ln, rfl, hmn, hrn, hb11⟩
    have hb12 := hb11.trans ((alloc_below w11 (.cells #[.slice pn ln.length cn] 75)).mono hb11.size)
    have HNx := Lib.hid (show Bx (w11.alloc (.cells #[.slice pn ln.length cn] 75)) w11.heap.size [.slice pn ln.length cn] from bx_new w11 _ _)
    have HRn := Lib.hid (hrn.later (alloc_below w11 (.cells #[.slice pn ln.length cn] 75)))
    have HOx2 := Lib.hid (HOx.out.next hb12)
    have HRo2 := Lib.hid (HRo.out.later hb12)
    have M7 := Lib.hid (K7.out.later hb12)
    have M8 := Lib.hid (K8.out.later hb12)
    replace hcur := below_next hcur (Nat.le_refl _) hb12
    obtain ⟨hkd, hks⟩ := HDB.out _ hcur
    have hko := HOx2.out.one
    have hkn := HNx.out.one
    have HDo := Lib.hid (show DnOk 20 (lo.map (·.1)) by rw [hmo.out]; exact HD.out.cr)
    have HDn := Lib.hid (show DnOk 20 (ln.map (·.1)) by rw [hmn.out]; exact HDs.out.cr)
    clear K7 K8 hb11 hb12 hrn HOx HRo
    go_wp2_with fail
    obtain ⟨gn, hgn⟩ : ∃ gn, gn = w11.heap.size := ⟨_, rfl⟩
    rw [← hgn] at HNx hkn ⊢
    clear hgn
    generalize (w11.alloc (.cells #[.slice pn ln.length cn] 75)) = w12 at *
    have HG5 := Lib.hid (fun W (hW : Below w12.heap.size w12 W) => (show Calls Try.prog 28 #[.agg #[.slice pn ln.length cn], .string (nmC a)] W fun e w' => ∃ q c, e = .returned (.tuple #[.slice q d0.length c, .int .i64 0]) ∧ Hid (IsB w' (.slice q d0.length c) d0) ∧ Below W.heap.size W w' from read_u (nmC a) _ ln (some d0) W ((HRn.out.later hW).mono (Nat.zero_le _)) HDn.out (by rw [hmn.out, HMS.out, HO5.out]; exact HQ.out)))
    by_cases hab : a = b
    · have hbe : ((nmC a).toList == (nmC b).toList) = true := by rw [hab]; simp
      obtain ⟨ob, hob⟩ := HO3.out hab
      have HG3 := Lib.hid (fun W (hW : Below w12.heap.size w12 W) => (show Calls Try.prog 28 #[.agg #[.slice po lo.length co], .string (nmC b)] W fun e w' => ∃ q c, e = .returned (.tuple #[.slice q ob.length c, .int .i64 0]) ∧ Hid (IsB w' (.slice q ob.length c) ob) ∧ Below W.heap.size W w' from read_u (nmC b) _ lo (some ob) W ((HRo2.out.later hW).mono (Nat.zero_le _)) HDo.out (by rw [hmo.out]; exact hob)))
      have HG4 := Lib.hid (fun W (hW : Below w12.heap.size w12 W) => (show Calls Try.prog 28 #[.agg #[.slice pn ln.length cn], .string (nmC b)] W fun e w' => ∃ q c, e = .returned (.tuple #[.slice q d0.length c, .int .i64 0]) ∧ Hid (IsB w' (.slice q d0.length c) d0) ∧ Below W.heap.size W w' from read_u (nmC b) _ ln (some d0) W ((HRn.out.later hW).mono (Nat.zero_le _)) HDn.out (by rw [hmn.out, HMS.out, ← hab, HO5.out]; exact HQ.out)))
      clear hab hob
      generalize nmC a = na at *
      generalize nmC b = nb at *
      have hs12 : Below w12.heap.size w12 w12 := Below.refl _ _
      have HCK := Lib.hid (fun (W : World) (hW : Below w12.heap.size w12 W) => (show W.cell? ⟨go', 0, none⟩ = some (.slice po lo.length co) ∧ W.cell? ⟨gn, 0, none⟩ = some (.slice pn ln.length cn) from ⟨(HOx2.out.next hW).one, (HNx.out.next hW).one⟩))
      refine (HG3.out _ hs12).mono ?_; rintro e w13 ⟨q13, c13, rfl, I13, hb13⟩
      replace hs12 := below_next hs12 (Nat.le_refl _) hb13
      replace hcur := below_next hcur (Nat.le_refl _) hb13
      obtain ⟨hko, hkn⟩ := HCK.out _ hs12
      obtain ⟨hkd, hks⟩ := HDB.out _ hcur
      go_wp2_with fail
      refine (HG4.out _ hs12).mono ?_; rintro e w14 ⟨q14, c14, rfl, I14, hb14⟩
      have J13 := Lib.hid (I13.out.later hb14)
      replace hs12 := below_next hs12 (Nat.le_refl _) hb14
      replace hcur := below_next hcur (Nat.le_refl _) hb14
      obtain ⟨hko, hkn⟩ := HCK.out _ hs12
      obtain ⟨hkd, hks⟩ := HDB.out _ hcur
      go_wp2_with fail
      refine (HG5.out _ hs12).mono ?_; rintro e w15 ⟨q15, c15, rfl, I15, hb15⟩
      have P13 := Lib.hid (J13.out.later hb15)
      have P14 := Lib.hid (I14.out.later hb15)
      replace hs12 := below_next hs12 (Nat.le_refl _) hb15
      replace hcur := below_next hcur (Nat.le_refl _) hb15
      obtain ⟨hkd, hks⟩ := HDB.out _ hcur
      go_wp2_with fail
      refine (HF8.out _ hcur).mono ?_; rintro e w16 ⟨q16, c16, rfl, I16, hb16⟩
      have U13 := Lib.hid (P13.out.later hb16)
      have U14 := Lib.hid (P14.out.later hb16)
      have U15 := Lib.hid (I15.out.later hb16)
      replace hs12 := below_next hs12 (Nat.le_refl _) hb16
      have V7 := Lib.hid (M7.out.later hs12)
      have V8 := Lib.hid (M8.out.later hs12)
      replace hcur := below_next hcur (Nat.le_refl _) hb16
      obtain ⟨hkd, hks⟩ := HDB.out _ hcur
      clear hb13 hb14 hb15 hb16 I13 I14 I15 J13 P13 P14
      go_wp2_with (go_at_call 31; refine (same_u _ _ _ _ _ _ (by first | exact V7.out | exact U15.out | exact U13.out) (by first | exact V8.out | exact I16.out | exact U14.out)).mono ?_; rintro e w' ⟨rfl, rfl⟩)
      go_ret
      exact ⟨rfl, hw6.out.trans (hcur.mono hw6.out.size)⟩
    · have hbe : ((nmC a).toList == (nmC b).toList) = false := by
        have : (nmC a).toList ≠ (nmC b).toList := fun h => hab (nmC_inj hxa hya h)
        simp [this]
      have h4 := HO4.out hab
      have HG3 := Lib.hid (fun W (hW : Below w12.heap.size w12 W) => read_u (nmC b) _ lo (rdF (crF (l.map (·.1)) k) (nmC b)) W ((HRo2.out.later hW).mono (Nat.zero_le _)) HDo.out (by rw [hmo.out]))
      have HG4 := Lib.hid (fun W (hW : Below w12.heap.size w12 W) => read_u (nmC b) _ ln (rdF (crF (l.map (·.1)) k) (nmC b)) W ((HRn.out.later hW).mono (Nat.zero_le _)) HDn.out (by rw [hmn.out, HMS.out, h4]))
      clear hab h4
      generalize (rdF (crF (l.map (·.1)) k) (nmC b)).getD [] = L3 at *
      generalize erO (rdF (crF (l.map (·.1)) k) (nmC b)) = e3 at *
      generalize nmC a = na at *
      generalize nmC b = nb at *
      have hs12 : Below w12.heap.size w12 w12 := Below.refl _ _
      have HCK := Lib.hid (fun (W : World) (hW : Below w12.heap.size w12 W) => (show W.cell? ⟨go', 0, none⟩ = some (.slice po lo.length co) ∧ W.cell? ⟨gn, 0, none⟩ = some (.slice pn ln.length cn) from ⟨(HOx2.out.next hW).one, (HNx.out.next hW).one⟩))
      refine (HG3.out _ hs12).mono ?_; rintro e w13 ⟨q13, c13, rfl, I13, hb13⟩
      replace hs12 := below_next hs12 (Nat.le_refl _) hb13
      replace hcur := below_next hcur (Nat.le_refl _) hb13
      obtain ⟨hko, hkn⟩ := HCK.out _ hs12
      obtain ⟨hkd, hks⟩ := HDB.out _ hcur
      go_wp2_with fail
      refine (HG4.out _ hs12).mono ?_; rintro e w14 ⟨q14, c14, rfl, I14, hb14⟩
      have J13 := Lib.hid (I13.out.later hb14)
      replace hs12 := below_next hs12 (Nat.le_refl _) hb14
      replace hcur := below_next hcur (Nat.le_refl _) hb14
      obtain ⟨hko, hkn⟩ := HCK.out _ hs12
      obtain ⟨hkd, hks⟩ := HDB.out _ hcur
      go_wp2_with fail
      refine (HG5.out _ hs12).mono ?_; rintro e w15 ⟨q15, c15, rfl, I15, hb15⟩
      have P13 := Lib.hid (J13.out.later hb15)
      have P14 := Lib.hid (I14.out.later hb15)
      replace hs12 := below_next hs12 (Nat.le_refl _) hb15
      replace hcur := below_next hcur (Nat.le_refl _) hb15
      obtain ⟨hkd, hks⟩ := HDB.out _ hcur
      go_wp2_with fail
      refine (HF8.out _ hcur).mono ?_; rintro e w16 ⟨q16, c16, rfl, I16, hb16⟩
      have U13 := Lib.hid (P13.out.later hb16)
      have U14 := Lib.hid (P14.out.later hb16)
      have U15 := Lib.hid (I15.out.later hb16)
      replace hs12 := below_next hs12 (Nat.le_refl _) hb16
      have V7 := Lib.hid (M7.out.later hs12)
      have V8 := Lib.hid (M8.out.later hs12)
      replace hcur := below_next hcur (Nat.le_refl _) hb16
      obtain ⟨hkd, hks⟩ := HDB.out _ hcur
      clear hb13 hb14 hb15 hb16 I13 I14 I15 J13 P13 P14
      go_wp2_with (go_at_call 31; refine (same_u _ _ _ _ _ _ (by first | exact V7.out | exact U15.out | exact U13.out) (by first | exact V8.out | exact I16.out | exact U14.out)).mono ?_; rintro e w' ⟨rfl, rfl⟩)
      go_ret
      exact ⟨rfl, hw6.out.trans (hcur.mono hw6.out.size)⟩
end Go.Proofs.Ytmadpjmlcooinaa
