/- The walk of the law CrashAgain. -/
import Derived.Test.YtmadpjmlcooinaaDone
import Derived.Test.YtmadpjmlcooinaaPCr
import Derived.Deep.RegionHeld3
import Derived.Deep.DeepCutAuto
namespace Go.Proofs.Ytmadpjmlcooinaa
open Go.RowKit
set_option maxHeartbeats 8000000 in
set_option maxRecDepth 100000 in
theorem crashAgain_walk (w : World) (v0 : Value) (L : List Nt) (h0 : IsNt w v0 L) (x : Int) (hx0 : -9223372036854775808 ≤ x) (hx1 : x ≤ 9223372036854775807) (y : Int) (hy0 : -9223372036854775808 ≤ y) (hy1 : y ≤ 9223372036854775807) (z : Int) (hz0 : -9223372036854775808 ≤ z) (hz1 : z ≤ 9223372036854775807) :
    Calls Try.prog 13 #[v0, .int .i64 x, .int .i64 y, .int .i64 z] w fun e w' => e = .returned (.bool true) ∧ Below w.heap.size w w' := by
  have HDN := Lib.hid (done_ok v0 L w h0)
  have HPX := Lib.hid (fun w' => picked_i x 40 40 w' rfl hx0 hx1 (by omega) (by omega))
  have HPY := Lib.hid (fun w' => picked_i y 40 40 w' rfl hy0 hy1 (by omega) (by omega))
  have HNZ := Lib.hid (fun w' => name_ok z w' hz0 hz1)
  obtain ⟨p0, c0, rfl, _⟩ := h0.val
  clear h0
  have hxa := pickN_lt x (m := 40) (by omega)
  have hya := pickN_lt y (m := 40) (by omega)
  have hza := pickN_lt z (m := 4) (by omega)
  generalize pickN x 40 = k1 at *
  generalize pickN y 40 = k2 at *
  generalize pickN z 4 = nn at *
  generalize nmC nn = nm at *
  go_enter Try.func13, Try.ntmps13
  go_wp2_with fail
  refine HDN.out.mono ?_; rintro e w1 ⟨p, c, l, rfl, HD, hR, hb1⟩
  obtain ⟨b2, B2, z2⟩ := boxed0 w1 [.slice p l.length c] 75
  have hR2 := Lib.hid (hR.later b2)
  have hb2 := Lib.hid (below_next hb1 (Nat.le_refl _) b2)
  have HDK := Lib.hid (HD.out.dk (by omega))
  have hk2 := B2.one
  have HB2 := Lib.hid B2
  go_wp2_with fail
  generalize (w1.alloc (.cells #[.slice p l.length c] 75)) = w2 at *
  have HCR := Lib.hid (fun W (hW : Below w2.heap.size w2 W) => crash_ok _ l k1 W ((hR2.out.later hW).mono (Nat.zero_le _)) HDK.out (by omega))
  have hn1 : ¬ w1.heap.size = w2.heap.size := by omega
  have hn2 : ¬ w2.heap.size = w1.heap.size := by omega
  clear hR b2 B2
  go_cut [11, 12] (fun s1 s2 wx => ∃ (gq : Nat) (pq : Option Addr) (cq : Nat) (lq : List (Fl × Value)), s1 = .pointer (some ⟨gq, 0, none⟩) ∧ s2 = .int .i64 0 ∧ Bx wx gq [.slice pq lq.length cq] ∧ Hid (lq.map (·.1) = crF (l.map (·.1)) k1) ∧ RDk wx 0 (.slice pq lq.length cq) lq ∧ Below w2.heap.size w2 wx)
  case first =>
    go_region_held3 (fun w' => w'.cell? ⟨w1.heap.size, 0, none⟩ = some (Value.slice p l.length c)) (first | (exact hk0) | go_keep)
      (first
        | (go_at_call 17; refine (HPX.out _).mono ?_; rintro e w' ⟨rfl, rfl⟩)
        | (go_at_call 34; refine (HCR.out _ (Below.drew (Below.refl _ _))).mono ?_; rintro e w3 ⟨pz, cz, lz, rfl, hmz, hrz, hb3⟩; have hc3 : Below w2.heap.size w2 w3 := (Below.refl _ w2).drew.trans hb3; have hk0 := (HB2.out.next hc3).one)
        | (go_at_call 34; refine (HCR.out _ (Below.drew (alloc_below w2 _))).mono ?_; rintro e w3 ⟨pz, cz, lz, rfl, hmz, hrz, hb3⟩; have hc3 : Below w2.heap.size w2 w3 := below_next (alloc_below w2 _).drew (Nat.le_refl _) hb3; have hk0 := (HB2.out.next hc3).one; have hbz := Bx.next (show Bx (w2.alloc (.cells #[.slice none 0 0] 75)).drew w2.heap.size [.slice none 0 0] from bx_new w2 _ _) hb3; obtain ⟨tz, htz⟩ := hbz; have hzf : w3.frozen? ⟨w2.heap.size, 0, none⟩ = false := (by simp [World.frozen?, htz]); have hzc : w3.cell? ⟨w2.heap.size, 0, none⟩ = some (.slice none 0 0) := (by simp [World.cell?, htz])))
    all_goals go_wp2_with fail
    all_goals go_meet
    case rel => exact ⟨_, pz, cz, lz, rfl, rfl, bx_new w3 _ _, hmz, ((hrz.mono (Nat.zero_le _)).later (alloc_below _ _)), hc3.trans ((alloc_below _ _).mono hc3.size)⟩
    case rel => exact ⟨_, pz, cz, lz, rfl, rfl, Bx.setc ⟨tz, htz⟩ 0 _, hmz, ((hrz.setCell (by simp) _).mono (Nat.zero_le _)), hc3.setCell (Nat.le_refl _) _⟩
    case rel => exact ⟨_, pz, cz, lz, rfl, rfl, Bx.setc ⟨tz, htz⟩ 0 _, hmz, ((hrz.setCell (by simp) _).mono (Nat.zero_le _)), hc3.setCell (Nat.le_refl _) _⟩
  case rest =>
  obtain ⟨ga, pa, ca, la, rfl, rfl, Ba, hma, hra, hb24⟩ := hcut
  have hgaz := Ba.lt
  obtain ⟨w4, rfl⟩ : ∃ w4 : World, w4 = wc := ⟨_, rfl⟩
  have hb4 := Lib.hid (below_next hb2.out (Nat.le_refl _) hb24)
  have HDa := Lib.hid (show DnOk 20 (la.map (·.1)) by rw [hma.out]; exact HD.out.cr)
  have HDKa := Lib.hid (HDa.out.dk (by omega))
  have hRa := Lib.hid hra
  have HB4 := Lib.hid Ba
  have hk4 := Ba.one
  have HX2 := Lib.hid (HB2.out.next hb24)
  have HR2 := Lib.hid (hR2.out.later hb24)
  have HCR2 := Lib.hid (fun W (hW : Below w4.heap.size w4 W) => crash_ok _ la k2 W (hRa.out.later hW) HDKa.out (by omega))
  have hn3 : ¬ ga = w4.heap.size := by omega
  have hn4 : ¬ w4.heap.size = ga := by omega
  clear hk2 hra Ba hb24 HCR hR2 hn1 hn2 z2
  go_upto_region 3 with fail
  go_cut [13, 14] (fun s1 s2 wx => ∃ (gq : Nat) (pq : Option Addr) (cq : Nat) (lq : List (Fl × Value)), s1 = .pointer (some ⟨gq, 0, none⟩) ∧ s2 = .int .i64 0 ∧ Bx wx gq [.slice pq lq.length cq] ∧ Hid (lq.map (·.1) = crF (la.map (·.1)) k2) ∧ RDk wx 0 (.slice pq lq.length cq) lq ∧ Below w4.heap.size w4 wx)
  case first =>
    go_region_held3 (fun w' => w'.cell? ⟨ga, 0, none⟩ = some (Value.slice pa la.length ca)) (first | (exact hk0) | go_keep)
      (first
        | (go_at_call 17; refine (HPY.out _).mono ?_; rintro e w' ⟨rfl, rfl⟩)
        | (go_at_call 34; refine (HCR2.out _ (Below.drew (Below.refl _ _))).mono ?_; rintro e w3 ⟨pz, cz, lz, rfl, hmz, hrz, hb3⟩; have hc3 : Below w4.heap.size w4 w3 := (Below.refl _ w4).drew.trans hb3; have hk0 := (HB4.out.next hc3).one)
        | (go_at_call 34; refine (HCR2.out _ (Below.drew (alloc_below w4 _))).mono ?_; rintro e w3 ⟨pz, cz, lz, rfl, hmz, hrz, hb3⟩; have hc3 : Below w4.heap.size w4 w3 := below_next (alloc_below w4 _).drew (Nat.le_refl _) hb3; have hk0 := (HB4.out.next hc3).one; have hbz := Bx.next (show Bx (w4.alloc (.cells #[.slice none 0 0] 75)).drew w4.heap.size [.slice none 0 0] from bx_new w4 _ _) hb3; obtain ⟨tz, htz⟩ := hbz; have hzf : w3.frozen? ⟨w4.heap.size, 0, none⟩ = false := (by simp [World.frozen?, htz]); have hzc : w3.cell? ⟨w4.heap.size, 0, none⟩ = some (.slice none 0 0) := (by simp [World.cell?, htz])))
    all_goals go_wp2_with fail
    all_goals go_meet
    case rel => exact ⟨_, pz, cz, lz, rfl, rfl, bx_new w3 _ _, hmz, ((hrz.mono (Nat.zero_le _)).later (alloc_below _ _)), hc3.trans ((alloc_below _ _).mono hc3.size)⟩
    case rel => exact ⟨_, pz, cz, lz, rfl, rfl, Bx.setc ⟨tz, htz⟩ 0 _, hmz, ((hrz.setCell (by simp) _).mono (Nat.zero_le _)), hc3.setCell (Nat.le_refl _) _⟩
    case rel => exact ⟨_, pz, cz, lz, rfl, rfl, Bx.setc ⟨tz, htz⟩ 0 _, hmz, ((hrz.setCell (by simp) _).mono (Nat.zero_le _)), hc3.setCell (Nat.le_refl _) _⟩
  case rest =>
  obtain ⟨gb, pb, cb, lb, rfl, rfl, Bb, hmb, hrb, hb46⟩ := hcut
  obtain ⟨w6, rfl⟩ : ∃ w6 : World, w6 = wc := ⟨_, rfl⟩
  have hb6 := Lib.hid (below_next hb4.out (Nat.le_refl _) hb46)
  have HMA := Lib.hid (show la.map (·.1) = crF (l.map (·.1)) k1 from hma.out)
  have HMB := Lib.hid (show lb.map (·.1) = crF (l.map (·.1)) k1 by rw [hmb.out, hma.out]; exact crF_twice (fun f hf => (HDK.out.ok f hf).sy))
  have HDKb := Lib.hid (show DkOk (lb.map (·.1)) by rw [HMB.out, ← HMA.out]; exact HDKa.out)
  have HRb := Lib.hid hrb
  have HXb := Lib.hid Bb
  have HXd := Lib.hid (HX2.out.next hb46)
  have HXa := Lib.hid (HB4.out.next hb46)
  have HRd := Lib.hid (HR2.out.later hb46)
  have HRa := Lib.hid (hRa.out.later hb46)
  have hla : la.length = l.length := by have := congrArg List.length HMA.out; unfold crF at this; simpa using this
  have hlb : lb.length = l.length := by have := congrArg List.length HMB.out; unfold crF at this; simpa using this
  have HLAB := Lib.hid (And.intro hla hlb)
  have HNL := Lib.hid (fun (W : World) (hW : Below w6.heap.size w6 W) => (show W.cell? ⟨w1.heap.size, 0, none⟩ = some (.slice p l.length c) ∧ W.cell? ⟨ga, 0, none⟩ = some (.slice pa l.length ca) ∧ W.cell? ⟨gb, 0, none⟩ = some (.slice pb l.length cb) from ⟨(HXd.out.next hW).one, by rw [← hla]; exact (HXa.out.next hW).one, by rw [← hlb]; exact (HXb.out.next hW).one⟩))
  have hcur : Below w6.heap.size w6 w6 := Below.refl _ _
  obtain ⟨hkd, hka, hkb⟩ := HNL.out w6 hcur
  clear hmb hrb Bb hb46 HX2 HB4 HR2 hRa hn3 hn4 hk4
  rcases hrd : rdF (l.map (·.1)) nm with _ | d0
  · have hra0 : rdF (la.map (·.1)) nm = none := by rw [HMA.out]; exact (rdF_crF k1 nm _).2 hrd
    have hrb0 : rdF (lb.map (·.1)) nm = none := by rw [HMB.out]; exact (rdF_crF k1 nm _).2 hrd
    have h4 := fun W (hW : Below w6.heap.size w6 W) => read_miss nm _ la W (HRa.out.later hW) HDKa.out hra0
    have h5 := fun W (hW : Below w6.heap.size w6 W) => read_miss nm _ lb W (HRb.out.later hW) HDKb.out hrb0
    have h6 := fun W (hW : Below w6.heap.size w6 W) => read_miss nm _ l W ((HRd.out.later hW).mono (Nat.zero_le _)) HDK.out hrd
    rw [hla] at h4
    rw [hlb] at h5
    have H4 := Lib.hid h4
    have H5 := Lib.hid h5
    have H6 := Lib.hid h6
    have HSB := Lib.hid (fun W => (show Calls Try.prog 31 #[.slice none 0 0, .slice none 0 0] W fun e w' => e = .returned (.bool true) ∧ W = w' from (sameBytes_any none none 0 0 0 0 [] [] W ⟨⟨none, 0, rfl, Nat.le_refl _, by decide, rfl, fun _ => rfl, .inl rfl⟩, fun x hx => by cases hx⟩ ⟨⟨none, 0, rfl, Nat.le_refl _, by decide, rfl, fun _ => rfl, .inl rfl⟩, fun x hx => by cases hx⟩).mono (by rintro e w' ⟨rfl, h⟩; exact ⟨by simp, h⟩)))
    clear h4 h5 h6 hra0 hrb0 hrd hla hlb
    go_upto_region 4 with fail
    go_region_held3 (fun w' => w'.cell? ⟨ga, 0, none⟩ = some (Value.slice pa l.length ca)) (first | (exact hka) | go_keep)
      (first
        | (go_at_call 29; refine (HNZ.out _).mono ?_; rintro e wn ⟨rfl, hbn⟩; (first | (replace hcur := below_next hcur (Nat.le_refl _) hbn) | (replace hcur := below_next hcur.drew (Nat.le_refl _) hbn)); (first | (replace hs4 := below_next hs4 (Nat.le_refl _) hbn) | (replace hs4 := below_next hs4.drew (Nat.le_refl _) hbn) | skip); (first | (replace hs5 := below_next hs5 (Nat.le_refl _) hbn) | (replace hs5 := below_next hs5.drew (Nat.le_refl _) hbn) | skip); obtain ⟨hkd, hka, hkb⟩ := HNL.out wn hcur)
        | (go_at_call 28; refine (H4.out _ hcur).mono ?_; rintro e wz ⟨rfl, hbz⟩; (replace hcur := below_next hcur (Nat.le_refl _) hbz); (first | (replace hs4 := below_next hs4 (Nat.le_refl _) hbz) | (replace hs4 := below_next hs4.drew (Nat.le_refl _) hbz) | skip); (first | (replace hs5 := below_next hs5 (Nat.le_refl _) hbz) | (replace hs5 := below_next hs5.drew (Nat.le_refl _) hbz) | skip); obtain ⟨hkd, hka, hkb⟩ := HNL.out wz hcur))
    go_upto_region 5 with fail
    go_region_held3 (fun w' => w'.cell? ⟨gb, 0, none⟩ = some (Value.slice pb l.length cb)) (first | (exact hkb) | go_keep)
      (first
        | (go_at_call 29; refine (HNZ.out _).mono ?_; rintro e wn ⟨rfl, hbn⟩; (first | (replace hcur := below_next hcur (Nat.le_refl _) hbn) | (replace hcur := below_next hcur.drew (Nat.le_refl _) hbn)); (first | (replace hs4 := below_next hs4 (Nat.le_refl _) hbn) | (replace hs4 := below_next hs4.drew (Nat.le_refl _) hbn) | skip); (first | (replace hs5 := below_next hs5 (Nat.le_refl _) hbn) | (replace hs5 := below_next hs5.drew (Nat.le_refl _) hbn) | skip); obtain ⟨hkd, hka, hkb⟩ := HNL.out wn hcur)
        | (go_at_call 28; refine (H5.out _ hcur).mono ?_; rintro e wz ⟨rfl, hbz⟩; (replace hcur := below_next hcur (Nat.le_refl _) hbz); (first | (replace hs4 := below_next hs4 (Nat.le_refl _) hbz) | (replace hs4 := below_next hs4.drew (Nat.le_refl _) hbz) | skip); (first | (replace hs5 := below_next hs5 (Nat.le_refl _) hbz) | (replace hs5 := below_next hs5.drew (Nat.le_refl _) hbz) | skip); obtain ⟨hkd, hka, hkb⟩ := HNL.out wz hcur))
    go_upto_region 6 with fail
    go_region_held3 (fun w' => w'.cell? ⟨w1.heap.size, 0, none⟩ = some (Value.slice p l.length c)) (first | (exact hkd) | go_keep)
      (first
        | (go_at_call 29; refine (HNZ.out _).mono ?_; rintro e wn ⟨rfl, hbn⟩; (first | (replace hcur := below_next hcur (Nat.le_refl _) hbn) | (replace hcur := below_next hcur.drew (Nat.le_refl _) hbn)); (first | (replace hs4 := below_next hs4 (Nat.le_refl _) hbn) | (replace hs4 := below_next hs4.drew (Nat.le_refl _) hbn) | skip); (first | (replace hs5 := below_next hs5 (Nat.le_refl _) hbn) | (replace hs5 := below_next hs5.drew (Nat.le_refl _) hbn) | skip); obtain ⟨hkd, hka, hkb⟩ := HNL.out wn hcur)
        | (go_at_call 28; refine (H6.out _ hcur).mono ?_; rintro e wz ⟨rfl, hbz⟩; (replace hcur := below_next hcur (Nat.le_refl _) hbz); (first | (replace hs4 := below_next hs4 (Nat.le_refl _) hbz) | (replace hs4 := below_next hs4.drew (Nat.le_refl _) hbz) | skip); (first | (replace hs5 := below_next hs5 (Nat.le_refl _) hbz) | (replace hs5 := below_next hs5.drew (Nat.le_refl _) hbz) | skip); obtain ⟨hkd, hka, hkb⟩ := HNL.out wz hcur))
    by_cases hpos : 0 < l.length
    · have hpi : (0 : Int) < (l.length : Int) := by omega
      go_wp2_with (go_at_call 31; refine (HSB.out _).mono ?_; rintro e w' ⟨rfl, rfl⟩)
      go_ret
      exact ⟨rfl, hb6.out.trans (hcur.mono hb6.out.size)⟩
    · have hpi : ¬ (0 : Int) < (l.length : Int) := by omega
      go_wp2_with (go_at_call 31; refine (HSB.out _).mono ?_; rintro e w' ⟨rfl, rfl⟩)
      go_ret
      exact ⟨rfl, hb6.out.trans (hcur.mono hb6.out.size)⟩
  · have hda : ∃ da, rdF (la.map (·.1)) nm = some da := by
      rcases h : rdF (la.map (·.1)) nm with _ | da
      · rw [HMA.out] at h; rw [(rdF_crF k1 nm _).1 h] at hrd; cases hrd
      · exact ⟨da, h⟩
    obtain ⟨da, hra0⟩ := hda
    have hrb0 : rdF (lb.map (·.1)) nm = some da := by rw [HMB.out, ← HMA.out]; exact hra0
    have hpos : 0 < l.length := by obtain ⟨h, _⟩ := rdF_some hrd; rw [List.length_map] at h; omega
    have hpi : (0 : Int) < (l.length : Int) := by omega
    have h4 := fun W (hW : Below w6.heap.size w6 W) => read_hit nm _ la da W (HRa.out.later hW) HDKa.out hra0
    have h5 := fun W (hW : Below w6.heap.size w6 W) => read_hit nm _ lb da W (HRb.out.later hW) HDKb.out hrb0
    have h6 := fun W (hW : Below w6.heap.size w6 W) => read_hit nm _ l d0 W ((HRd.out.later hW).mono (Nat.zero_le _)) HDK.out hrd
    rw [hla] at h4
    rw [hlb] at h5
    have H4 := Lib.hid h4
    have H5 := Lib.hid h5
    have H6 := Lib.hid h6
    have HAB := Lib.hid (HDa.out.allB hra0)
    clear h4 h5 h6 hra0 hrb0 hrd hla hlb
    go_upto_region 4 with fail
    go_region_held3 (fun w' => w'.cell? ⟨ga, 0, none⟩ = some (Value.slice pa l.length ca)) (first | (exact hka) | go_keep)
      (first
        | (go_at_call 29; refine (HNZ.out _).mono ?_; rintro e wn ⟨rfl, hbn⟩; (first | (replace hcur := below_next hcur (Nat.le_refl _) hbn) | (replace hcur := below_next hcur.drew (Nat.le_refl _) hbn)); (first | (replace hs4 := below_next hs4 (Nat.le_refl _) hbn) | (replace hs4 := below_next hs4.drew (Nat.le_refl _) hbn) | skip); (first | (replace hs5 := below_next hs5 (Nat.le_refl _) hbn) | (replace hs5 := below_next hs5.drew (Nat.le_refl _) hbn) | skip); obtain ⟨hkd, hka, hkb⟩ := HNL.out wn hcur)
        | (go_at_call 28; refine (H4.out _ hcur).mono ?_; rintro e wz ⟨q4, c4, rfl, hr4, hbz⟩; (replace hcur := below_next hcur (Nat.le_refl _) hbz); (first | (replace hs4 := below_next hs4 (Nat.le_refl _) hbz) | (replace hs4 := below_next hs4.drew (Nat.le_refl _) hbz) | skip); (first | (replace hs5 := below_next hs5 (Nat.le_refl _) hbz) | (replace hs5 := below_next hs5.drew (Nat.le_refl _) hbz) | skip); have HQ4 := Lib.hid (fun W (hW : Below wz.heap.size wz W) => hr4.later hW); have hs4 : Below wz.heap.size wz wz := Below.refl _ _; clear hr4; obtain ⟨hkd, hka, hkb⟩ := HNL.out wz hcur))
    go_upto_region 5 with fail
    go_region_held3 (fun w' => w'.cell? ⟨gb, 0, none⟩ = some (Value.slice pb l.length cb)) (first | (exact hkb) | go_keep)
      (first
        | (go_at_call 29; refine (HNZ.out _).mono ?_; rintro e wn ⟨rfl, hbn⟩; (first | (replace hcur := below_next hcur (Nat.le_refl _) hbn) | (replace hcur := below_next hcur.drew (Nat.le_refl _) hbn)); (first | (replace hs4 := below_next hs4 (Nat.le_refl _) hbn) | (replace hs4 := below_next hs4.drew (Nat.le_refl _) hbn) | skip); (first | (replace hs5 := below_next hs5 (Nat.le_refl _) hbn) | (replace hs5 := below_next hs5.drew (Nat.le_refl _) hbn) | skip); obtain ⟨hkd, hka, hkb⟩ := HNL.out wn hcur)
        | (go_at_call 28; refine (H5.out _ hcur).mono ?_; rintro e wz ⟨q5, c5, rfl, hr5, hbz⟩; (replace hcur := below_next hcur (Nat.le_refl _) hbz); (first | (replace hs4 := below_next hs4 (Nat.le_refl _) hbz) | (replace hs4 := below_next hs4.drew (Nat.le_refl _) hbz) | skip); (first | (replace hs5 := below_next hs5 (Nat.le_refl _) hbz) | (replace hs5 := below_next hs5.drew (Nat.le_refl _) hbz) | skip); have HQ5 := Lib.hid (fun W (hW : Below wz.heap.size wz W) => hr5.later hW); have hs5 : Below wz.heap.size wz wz := Below.refl _ _; clear hr5; obtain ⟨hkd, hka, hkb⟩ := HNL.out wz hcur))
    go_upto_region 6 with fail
    go_region_held3 (fun w' => w'.cell? ⟨w1.heap.size, 0, none⟩ = some (Value.slice p l.length c)) (first | (exact hkd) | go_keep)
      (first
        | (go_at_call 29; refine (HNZ.out _).mono ?_; rintro e wn ⟨rfl, hbn⟩; (first | (replace hcur := below_next hcur (Nat.le_refl _) hbn) | (replace hcur := below_next hcur.drew (Nat.le_refl _) hbn)); (first | (replace hs4 := below_next hs4 (Nat.le_refl _) hbn) | (replace hs4 := below_next hs4.drew (Nat.le_refl _) hbn) | skip); (first | (replace hs5 := below_next hs5 (Nat.le_refl _) hbn) | (replace hs5 := below_next hs5.drew (Nat.le_refl _) hbn) | skip); obtain ⟨hkd, hka, hkb⟩ := HNL.out wn hcur)
        | (go_at_call 28; refine (H6.out _ hcur).mono ?_; rintro e wz ⟨q6, c6, rfl, hr6, hbz⟩; (replace hcur := below_next hcur (Nat.le_refl _) hbz); (first | (replace hs4 := below_next hs4 (Nat.le_refl _) hbz) | (replace hs4 := below_next hs4.drew (Nat.le_refl _) hbz) | skip); (first | (replace hs5 := below_next hs5 (Nat.le_refl _) hbz) | (replace hs5 := below_next hs5.drew (Nat.le_refl _) hbz) | skip); obtain ⟨hkd, hka, hkb⟩ := HNL.out wz hcur))
    have hsb := (show Calls Try.prog 31 #[.slice q4 da.length c4, .slice q5 da.length c5] wz fun e w' => e = .returned (.bool true) ∧ wz = w' from (sameBytes_any q4 q5 c4 c5 da.length da.length da da wz ((HQ4.out wz hs4).isB HAB.out) ((HQ5.out wz hs5).isB HAB.out)).mono (by rintro e w' ⟨rfl, h⟩; exact ⟨by simp, h⟩))
    have HSB := Lib.hid hsb
    clear hsb
    go_wp2_with (go_at_call 31; refine HSB.out.mono ?_; rintro e w' ⟨rfl, rfl⟩)
    go_ret
    exact ⟨rfl, hb6.out.trans (hcur.mono hb6.out.size)⟩
end Go.Proofs.Ytmadpjmlcooinaa
