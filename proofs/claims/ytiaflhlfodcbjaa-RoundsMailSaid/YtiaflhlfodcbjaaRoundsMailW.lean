/- The walk of the law RoundsMail. -/
import Derived.Test.YtiaflhlfodcbjaaRoundsStepsW
namespace Go.Proofs.Ytiaflhlfodcbjaa
open Go.RowKit
set_option maxHeartbeats 16000000 in
set_option maxRecDepth 100000 in
theorem roundsMail_walk (w : World) (a0 : Int) (ha0 : -9223372036854775808 ≤ a0) (ha1 : a0 ≤ 9223372036854775807) (v1 : Value) (l1 : List (List Int)) (h1 : IsR 3 w v1 l1) (a2 : Int) (ha2 : -9223372036854775808 ≤ a2) (ha3 : a2 ≤ 9223372036854775807) (a3 : Int) (ha4 : -9223372036854775808 ≤ a3) (ha5 : a3 ≤ 9223372036854775807) (a4 : Int) (ha6 : -9223372036854775808 ≤ a4) (ha7 : a4 ≤ 9223372036854775807) :
    Calls Try.prog 3 #[.int .i64 a0, v1, .int .i64 a2, .int .i64 a3, .int .i64 a4] w fun e w' => e = .returned (.bool true) ∧ Below w.heap.size w w' := by
  obtain ⟨p1, c1, rfl⟩ := h1.val
  obtain ⟨N, hN⟩ : ∃ N, N = 1 + pickN a0 6 := ⟨_, rfl⟩
  obtain ⟨E, hE⟩ : ∃ E, E = edgesL N l1 := ⟨_, rfl⟩
  obtain ⟨kd, hkd⟩ : ∃ kd, kd = 1 + pickN a2 3 := ⟨_, rfl⟩
  obtain ⟨sr, hsr⟩ : ∃ sr, sr = pickN a3 N := ⟨_, rfl⟩
  have HJO := Lib.hid (jobOf_ok a0 a2 a3 p1 _ c1 N kd sr l1 E w ha0 ha1 ha2 ha3 ha4 ha5 h1 hN hE hkd hsr)
  have hpk := pickN_lt a0 (m := 6) (by decide)
  have hN6 : N ≤ 6 := by omega
  have HPK := Lib.hid (fun W => picked_i a4 12 12 W rfl ha6 ha7 (by omega) (by omega))
  have hpm := pickN_lt a4 (m := 12) (by decide)
  generalize pickN a4 12 = pm at HPK hpm
  clear h1 ha0 ha1 ha2 ha3 ha4 ha5 ha6 ha7 hN hE hkd hsr hpk
  obtain ⟨n, hn⟩ : ∃ n, n = E.length := ⟨_, rfl⟩
  rw [← hn] at HJO
  have HN := Lib.hid hn
  clear hn
  go_enter Try.func3, Try.ntmps3
  go_wp2_with fail
  refine HJO.out.mono ?_; rintro e w1 ⟨q, d, rfl, hj, hE10, hb1, -⟩
  obtain ⟨K, hK⟩ := runs_in (src := (sr : Int)) ⟨hj.k1, hj.k3⟩ hj.g ⟨hj.N1, hj.N10⟩
  have HRI := Lib.hid hK
  have HI := Lib.hid (runI hK hj.g ⟨hj.N1, hN6⟩ (by have := HN.out; omega))
  have hK1 := HI.out.K1
  have hK150 := HI.out.K2
  have HJ := Lib.hid hj
  have HB1 := Lib.hid hb1
  have HE10 := Lib.hid hE10
  clear hj hb1 hK HJO hE10
  unfold jobV at *
  obtain ⟨b2, B2, z2⟩ := boxed0 w1 [.int .i64 (N : Int), .slice q n d, .int .i64 (kd : Int), .int .i64 (sr : Int)] 27
  go_upto_region 2 with fail
  obtain ⟨w2, hw2⟩ : ∃ w2 : World, w2 = w1.alloc (.cells #[.int .i64 (N : Int), .slice q n d, .int .i64 (kd : Int), .int .i64 (sr : Int)] 27) := ⟨_, rfl⟩
  obtain ⟨g2, hg2⟩ : ∃ g2, g2 = w1.heap.size := ⟨_, rfl⟩
  have e2 : (w1.alloc (.cells (List.toArray [Value.int .i64 (N : Int), .slice q n d, .int .i64 (kd : Int), .int .i64 (sr : Int)]) 27)) = w2 := hw2.symm
  rw [e2] at b2 B2 z2
  rw [← hg2] at B2
  rw [← hw2, ← hg2]
  have HJ2 := Lib.hid (HJ.out.later b2)
  have HJX := Lib.hid B2
  have HB2 := Lib.hid (HB1.out.trans (b2.mono HB1.out.size))
  have HBG := Lib.hid (fun (W : World) (hW : Below w2.heap.size w2 W) => begin_ok q d n N kd (sr : Int) E W (HJ2.out.later hW))
  have HNX := Lib.hid (fun (v : Value) (i : Nat) (W : World) (hW : Below w2.heap.size w2 W) (hv : RdSt W 0 N v (stI kd (sr : Int) N E i)) => nextI_ok q d n N kd (sr : Int) E v i W (HJ2.out.later hW) (by have := HE10.out; have := HN.out; omega) hv (HI.out.top i))
  have HGS := Lib.hid HI.out.good
  have HTP := Lib.hid HI.out.top
  have HBW := Lib.hid HB2.out
  have hs0 : stI kd (sr : Int) N E 0 = beginF N := rfl
  have HS0 := Lib.hid hs0
  have hsS : ∀ i, stI kd (sr : Int) N E (i + 1) = nextF kd (sr : Int) N E (stI kd (sr : Int) N E i) := stI_succ _ _ _ _
  have HSC := Lib.hid hsS
  have HJE := Lib.hid HJ.out.g
  have HED := Lib.hid (show ∀ W, Below w2.heap.size w2 W → Sl W 3 (.slice q n d) n (ecs E) from fun W hW => HJ2.out.sl.later hW)
  have hk1 := HJ.out.k1
  have hk3 := HJ.out.k3
  have hN1 := HJ.out.N1
  have hN10 := HJ.out.N10
  have hnd := HJ.out.sl.elen.2.1
  have hnd63 := HJ.out.sl.elen.2.2
  have hn10 := HE10.out
  clear hw2 hg2 e2 b2 B2 z2 HJ HB1 HRI HI HE10 hs0 hsS hK1 hK150
  unfold jobV at *
  obtain ⟨S, hS⟩ : ∃ S : Nat → RSt, S = stI kd (sr : Int) N E := ⟨_, rfl⟩
  rw [← hS] at HNX HGS HTP HS0 HSC
  rw [← HS0.out] at HBG
  clear hS HS0
  obtain ⟨hx0, hx1, hx2, hx3, _⟩ := HJX.out.four
  go_wp2_with fail
  refine (HBG.out _ (Below.refl _ _)).mono ?_; rintro e w5 ⟨v5, rfl, hs5, hb5⟩
  obtain ⟨pv0, pm0, cv0, cm0, rfl, hsv, hsm, hvl⟩ := hs5
  have HSB := Lib.hid (show RdSt w5 0 N (.agg #[.int .i64 ((S 0).step : Int), .int .i64 ((S 0).phase : Int), .bool (S 0).fresh, .bool (S 0).done, .slice pv0 N cv0, .slice pm0 N cm0]) (S 0) from RdSt.mono (B := w2.heap.size) ⟨pv0, pm0, cv0, cm0, rfl, hsv, hsm, hvl⟩ (Nat.zero_le _))
  have HJX5 := Lib.hid (HJX.out.next hb5)
  have HB5 := Lib.hid hb5
  clear hsv hsm hvl hb5 hx0 hx1 hx2 hx3 HBG HJX
  obtain ⟨b6, B6, z6⟩ := boxed0 w5 [.int .i64 ((S 0).step : Int), .int .i64 ((S 0).phase : Int), .bool (S 0).fresh, .bool (S 0).done, .slice pv0 N cv0, .slice pm0 N cm0] 32
  go_upto_region 3 with fail
  obtain ⟨w6, hw6⟩ : ∃ w6 : World, w6 = w5.alloc (.cells #[.int .i64 ((S 0).step : Int), .int .i64 ((S 0).phase : Int), .bool (S 0).fresh, .bool (S 0).done, .slice pv0 N cv0, .slice pm0 N cm0] 32) := ⟨_, rfl⟩
  obtain ⟨g6, hg6⟩ : ∃ g6, g6 = w5.heap.size := ⟨_, rfl⟩
  have e6 : (w5.alloc (.cells (List.toArray [Value.int .i64 ((S 0).step : Int), .int .i64 ((S 0).phase : Int), .bool (S 0).fresh, .bool (S 0).done, .slice pv0 N cv0, .slice pm0 N cm0]) 32)) = w6 := hw6.symm
  rw [e6] at b6 B6 z6
  have HHB := Lib.hid (held_old (g := g6) HSB.out b6 (by rw [hg6]; exact Nat.le_refl _))
  rw [← hg6] at B6
  rw [← hw6, ← hg6]
  have HSX6 := Lib.hid B6
  have HJX6 := Lib.hid (HJX5.out.next b6)
  have HB6 := Lib.hid (HB5.out.trans (b6.mono HB5.out.size))
  have h26 : g2 < g6 := by rw [hg6]; exact HJX5.out.lt
  have h2w6 : w2.heap.size ≤ g6 := by rw [hg6]; exact HB5.out.size
  clear hw6 hg6 e6 b6 B6 z6 HSB HJX5 HB5
  go_wp2_with fail
  go_loopg [13, 14] pm (fun gk v13 v14 wr => ∃ i : Nat, v13 = .int .i64 0 ∧ v14 = .int .i64 (i : Int) ∧ i + gk = pm ∧ Hid (∃ (pv pm : Option Addr) (cv cm : Nat), Bx wr g6 [.int .i64 ((S i).step : Int), .int .i64 ((S i).phase : Int), .bool (S i).fresh, .bool (S i).done, .slice pv N cv, .slice pm N cm] ∧ HeldSt wr g6 0 N (.agg #[.int .i64 ((S i).step : Int), .int .i64 ((S i).phase : Int), .bool (S i).fresh, .bool (S i).done, .slice pv N cv, .slice pm N cm]) (S i)) ∧ Hid (Bx wr g2 [.int .i64 (N : Int), .slice q n d, .int .i64 (kd : Int), .int .i64 (sr : Int)]) ∧ Hid (Below w2.heap.size w2 wr) ∧ g6 < wr.heap.size)
  case atStart => exact ⟨0, rfl, rfl, by omega, Lib.hid ⟨_, _, _, _, HSX6.out, HHB.out⟩, HJX6, HB6, HSX6.out.lt⟩
  case round =>
    clear HSX6 HHB HJX6 HB6
    obtain ⟨i, rfl, rfl, hgi, HSS', HJX, HB, hsz⟩ := hrel
    obtain ⟨pvi, pmi, cvi, cmi, hbx, hhs⟩ := HSS'.out
    have HSX := Lib.hid hbx
    have HHS := Lib.hid hhs
    have HGI := Lib.hid hgi
    have hi : i ≤ pm := by omega
    clear hbx hhs HSS' hgi
    obtain ⟨hx0, hx1, hx2, hx3, _⟩ := HJX.out.four
    have HN1 := Lib.hid (HNX.out _ i wr HB.out HHS.out.now)
    obtain ⟨ht0, ht1, ht2, ht3, ht4, ht5⟩ := HSX.out.six
    by_cases hlt : i < pm
    · have hd1 : decide ((i : Int) < (pm : Int)) = true := by simp; omega
      have HLT := Lib.hid hlt
      clear hlt HHS
      go_wp2_with fail
      refine (HPK.out _).mono ?_; rintro e w' ⟨rfl, rfl⟩
      go_wp2_with fail
      refine HN1.out.mono ?_; rintro e w7 ⟨v7, rfl, hs7, hb7⟩
      obtain ⟨pv7, pm7, cv7, cm7, rfl, hsv, hsm, hvl⟩ := hs7
      have HS7 := Lib.hid (held_new (g := g6) (show RdSt w7 wr.heap.size N (.agg #[.int .i64 ((S (i + 1)).step : Int), .int .i64 ((S (i + 1)).phase : Int), .bool (S (i + 1)).fresh, .bool (S (i + 1)).done, .slice pv7 N cv7, .slice pm7 N cm7]) (S (i + 1)) from ⟨pv7, pm7, cv7, cm7, rfl, hsv, hsm, hvl⟩) hsz)
      have HJX7 := Lib.hid (HJX.out.next hb7)
      have HSX7 := Lib.hid (HSX.out.next hb7)
      have HB7 := Lib.hid (HB.out.trans (hb7.mono HB.out.size))
      have hsz7 : g6 < w7.heap.size := Nat.lt_of_lt_of_le hsz hb7.size
      clear hsv hsm hvl hb7 HN1 hx0 hx1 hx2 hx3 ht0 ht1 ht2 ht3 ht4 ht5 HJX HSX HB
      obtain ⟨hy0, hy1, hy2, hy3, hy4, hy5⟩ := HSX7.out.six
      obtain ⟨hf0, hf1, hf2, hf3, hf4, hf5⟩ := HSX7.out.sixF
      go_wp2_with fail
      go_roundg (pm - (i + 1))
      case measure => have := HGI.out; have := HLT.out; omega
      case rel =>
        refine ⟨i + 1, rfl, by go_num, by have := HLT.out; omega, Lib.hid ⟨pv7, pm7, cv7, cm7, bx6 HSX7.out _ _ _ _ _ _, ?_⟩, Lib.hid (bx6o HJX7.out (by omega) _ _ _ _ _ _), Lib.hid (setc6 HB7.out h2w6 _ _ _ _ _ _), by simp [World.setCell]; exact hsz7⟩
        exact (HS7.out.next (grown6 _ _ _ _ _ _)).mono (Nat.zero_le _)
    · obtain rfl : i = pm := by omega
      have hd1 : decide ((i : Int) < (i : Int)) = false := by simp
      obtain ⟨wo, rfl⟩ : ∃ wo : World, wo = wr := ⟨_, rfl⟩
      have HSI := Lib.hid (HSC.out i)
      have HGI1 := Lib.hid (HGS.out i)
      have HGI2 := Lib.hid (HGS.out (i + 1))
      have HTP1 := Lib.hid (HTP.out i)
      clear hlt HGI hi HNX HGS HTP HSC
      go_wp2_with fail
      refine (HPK.out _).mono ?_; rintro e w' ⟨rfl, rfl⟩
      have hnn : ((N : Int) != (N : Int)) = false := by simp
      go_wp2_with fail
      refine HN1.out.mono ?_; rintro e w7 ⟨v7, rfl, hs7, hb7⟩
      obtain ⟨pv7, pm7, cv7, cm7, rfl, hsv, hsm, hvl⟩ := hs7
      obtain ⟨s, hs⟩ : ∃ s, s = S i := ⟨_, rfl⟩
      obtain ⟨s2, hs2⟩ : ∃ s2, s2 = S (i + 1) := ⟨_, rfl⟩
      rw [← hs, ← hs2] at HSI
      rw [← hs2] at hsv hsm HGI2 ⊢
      rw [← hs] at HGI1 HTP1 HSX HHS ⊢
      have HS7 := Lib.hid hsm
      have HHS7 := Lib.hid (HHS.out.now.later hb7)
      have HJX7 := Lib.hid (HJX.out.next hb7)
      have HSX7 := Lib.hid (HSX.out.next hb7)
      have HB7 := Lib.hid (HB.out.trans (hb7.mono HB.out.size))
      clear hs hs2 hsv hsm hvl hb7 HN1 hx0 hx1 hx2 hx3 ht0 ht1 ht2 ht3 ht4 ht5 HJX HSX HB HHS hnn hd1 HPK
      obtain ⟨b8, B8, z8⟩ := boxed0 w7 [.int .i64 (s2.step : Int), .int .i64 (s2.phase : Int), .bool s2.fresh, .bool s2.done, .slice pv7 N cv7, .slice pm7 N cm7] 32
      go_upto_region 10 with fail
      obtain ⟨w8, hw8⟩ : ∃ w8 : World, w8 = w7.alloc (.cells #[.int .i64 (s2.step : Int), .int .i64 (s2.phase : Int), .bool s2.fresh, .bool s2.done, .slice pv7 N cv7, .slice pm7 N cm7] 32) := ⟨_, rfl⟩
      obtain ⟨g8, hg8⟩ : ∃ g8, g8 = w7.heap.size := ⟨_, rfl⟩
      have e8 : (w7.alloc (.cells (List.toArray [Value.int .i64 (s2.step : Int), .int .i64 (s2.phase : Int), .bool s2.fresh, .bool s2.done, .slice pv7 N cv7, .slice pm7 N cm7]) 32)) = w8 := hw8.symm
      rw [e8] at b8 B8 z8
      rw [← hg8] at B8
      rw [← hw8, ← hg8]
      have HS8 := Lib.hid (HS7.out.later b8)
      obtain ⟨pvx, pmx, cvx, cmx, e, hsv, hsm, hvl⟩ := HHS7.out.later b8
      cases e
      have HV := Lib.hid hsv
      have HR := Lib.hid hsm
      have HVL := Lib.hid hvl
      have HJX8 := Lib.hid (HJX7.out.next b8)
      have HSX8 := Lib.hid (HSX7.out.next b8)
      have HNX8 := Lib.hid B8
      have HB8 := Lib.hid (HB7.out.trans (b8.mono HB7.out.size))
      clear hw8 hg8 e8 b8 B8 z8 HS7 HHS7 HJX7 HSX7 HB7 hsv hsm hvl hsz h26 h2w6
      have HML2 := Lib.hid HGI2.out.ml
      have HSM2 := Lib.hid HGI2.out.sm
      obtain ⟨hn0, hn1, hn2, hn3, hn4, hn5⟩ := HNX8.out.six
      go_wp2_with fail
      go_loopg [17, 18] N (fun gk v17 v18 wr => ∃ k : Nat, v18 = .int .i64 (k : Int) ∧ k + gk = N ∧ v17 = .int .i64 ((((s2.mail.take k).map List.length).sum : Nat) : Int) ∧ w8 = wr)
      case atStart => exact ⟨0, rfl, by omega, rfl, rfl⟩
      case round =>
        obtain ⟨k, rfl, hgk, rfl, rfl⟩ := hrel
        have HGK := Lib.hid hgk
        have hk : k ≤ N := by omega
        clear hgk
        by_cases hlt : k < N
        · have hkm : k < s2.mail.length := by have := HML2.out; omega
          obtain ⟨bm, offm, qr, dr, rfl, hcm, hq⟩ := HS8.out.get (List.getElem?_eq_getElem hkm)
          have HTK := Lib.hid (show ((s2.mail.take (k + 1)).map List.length).sum = ((s2.mail.take k).map List.length).sum + s2.mail[k].length from by rw [List.take_succ_eq_append_getElem hkm, List.map_append, List.sum_append]; simp)
          have hle : ((s2.mail.take (k + 1)).map List.length).sum ≤ 1000 := by
            have h1 := HSM2.out
            have h2 : ((s2.mail.take (k + 1)).map List.length).sum + ((s2.mail.drop (k + 1)).map List.length).sum = (s2.mail.map List.length).sum := by rw [← List.sum_append, ← List.map_append, List.take_append_drop]
            omega
          rw [HTK.out] at hle
          generalize ((s2.mail.take k).map List.length).sum = sm at *
          generalize s2.mail[k].length = lk at *
          have hk0 : (0 : Int) ≤ (k : Int) := by omega
          have hkn : (k : Int) < (N : Int) := by omega
          have hd1 : decide ((k : Int) < (N : Int)) = true := by simp; omega
          have hd2 : decide (k < N) = true := by simp; omega
          have HLT := Lib.hid hlt
          clear hlt hq
          go_wp2_with fail
          go_roundg (N - (k + 1))
          case measure => have := HGK.out; have := HLT.out; omega
          case rel => exact ⟨k + 1, by go_num, by have := HLT.out; omega, by rw [HTK.out]; go_num, rfl⟩
        · obtain rfl : k = N := by omega
          have hd1 : decide ((k : Int) < (k : Int)) = false := by simp
          have hd2 : decide (k < k) = false := by simp
          have hall : s2.mail.take k = s2.mail := List.take_of_length_le (by have := HML2.out; omega)
          rw [hall]
          obtain ⟨many, hmany⟩ : ∃ many, many = (s2.mail.map List.length).sum := ⟨_, rfl⟩
          rw [← hmany]
          have HMANY := Lib.hid hmany
          clear hlt hall hmany HGK hk
          obtain ⟨hx0, hx1, hx2, hx3, _⟩ := HJX8.out.four
          cases hdn : s.done with
          | true =>
            have hm0 : many = 0 := by
              rw [HMANY.out, HSI.out, it_stay hdn]
              apply sum_zero
              intro y hy
              obtain ⟨r, hr, rfl⟩ := List.mem_map.1 hy
              obtain ⟨v, hv, rfl⟩ := List.mem_iff_getElem.1 hr
              have := HGI1.out.em (.inr hdn) v (by rw [← HGI1.out.ml]; exact hv)
              rw [mL_at hv] at this
              rw [this]; rfl
            rw [hdn] at HSX8
            obtain ⟨ht0, ht1, ht2, ht3, ht4, ht5⟩ := HSX8.out.six
            subst hm0
            clear hdn
            have hd3 : decide ((0 : Int) < (k : Int)) = true := by simp; omega
            have hd4 : decide (0 < k) = true := by simp; omega
            clear hd1 hd2
            obtain ⟨wo, rfl⟩ : ∃ wo : World, wo = w8 := ⟨_, rfl⟩
            go_wp2_with fail
            go_loopg [19, 20] 0 (fun gk v19 v20 wr => v19 = .int .i64 0 ∧ v20 = .int .i64 0 ∧ wo = wr)
            case atStart => exact ⟨rfl, rfl, rfl⟩
            case round =>
              obtain ⟨rfl, rfl, rfl⟩ := hrel
              go_wp2_with fail
              go_ret
              exact ⟨rfl, HBW.out.trans (HB8.out.mono HBW.out.size)⟩
          | false =>
            have HNE := Lib.hid (show s2 = nextF kd (sr : Int) k E s from HSI.out)
            have HMU := Lib.hid (show many = (upMsgs kd (sr : Int) E s k).length from by rw [HMANY.out, HSI.out, (nextF_vals hdn).2.1, nMail_sum HJE.out])
            have HBX := Lib.hid (show ∀ W, Below w8.heap.size w8 W → Bx W g2 [.int .i64 (k : Int), .slice q n d, .int .i64 (kd : Int), .int .i64 (sr : Int)] ∧ Bx W g6 [.int .i64 (s.step : Int), .int .i64 (s.phase : Int), .bool s.fresh, .bool false, .slice pvi k cvi, .slice pmi k cmi] ∧ Bx W g8 [.int .i64 (s2.step : Int), .int .i64 (s2.phase : Int), .bool s2.fresh, .bool s2.done, .slice pv7 k cv7, .slice pm7 k cm7] from fun W hW => ⟨HJX8.out.next hW, by rw [← hdn]; exact HSX8.out.next hW, HNX8.out.next hW⟩)
            have hup : (upMsgs kd (sr : Int) E s 0).length = 0 := rfl
            have HUP := Lib.hid hup
            have HDN := Lib.hid hdn
            have HW2 := Lib.hid (show ∀ W, Below w8.heap.size w8 W → Below w2.heap.size w2 W from fun W hW => HB8.out.trans (hW.mono HB8.out.size))
            have hcap : capF kd k s.step ≤ 190 := by
              unfold capF; split
              · have := HTP1.out.2 (by assumption); omega
              · omega
            have HCAP := Lib.hid hcap
            have HVL1 := Lib.hid HGI1.out.vl
            have HML1 := Lib.hid HGI1.out.ml
            have HUB := Lib.hid (show ∀ i, i ≤ k → (upMsgs kd (sr : Int) E s i).length ≤ 400 from fun i hi => by
              have h1 := upMsgs_len kd (sr : Int) E s i
              have h2 : i * (E.length * 2) ≤ 10 * 40 := Nat.mul_le_mul (by omega) (by have := HN.out; omega)
              omega)
            clear hdn hup hcap HJX8 HSX8 HNX8 hd1 hd2 hx0 hx1 hx2 hx3 hn0 hn1 hn2 hn3 hn4 hn5 HSI
            obtain ⟨⟨hx0, hx1, hx2, hx3, _⟩, ⟨ht0, ht1, ht2, ht3, ht4, ht5⟩, ⟨hn0, hn1, hn2, hn3, hn4, hn5⟩⟩ := (show _ ∧ _ ∧ _ from ⟨(HBX.out _ (Below.refl _ w8)).1.four, (HBX.out _ (Below.refl _ w8)).2.1.six, (HBX.out _ (Below.refl _ w8)).2.2.six⟩)
            have hd1 : decide ((k : Int) < (k : Int)) = false := by simp
            have hd2 : decide (k < k) = false := by simp
            obtain ⟨wo, rfl⟩ : ∃ wo : World, wo = w8 := ⟨_, rfl⟩
            go_wp2_with fail
            clear hd1 hd2
            go_loopg [19, 20] k (fun gk v19 v20 wr => ∃ i : Nat, v20 = .int .i64 (i : Int) ∧ v19 = .int .i64 (((upMsgs kd (sr : Int) E s i).length : Nat) : Int) ∧ i + gk = k ∧ Hid (Below wo.heap.size wo wr))
            case atStart => exact ⟨0, rfl, rfl, by omega, Lib.hid (Below.refl _ _)⟩
            case round =>
              clear hx0 hx1 hx2 hx3 ht0 ht1 ht2 ht3 ht4 ht5 hn0 hn1 hn2 hn3 hn4 hn5
              obtain ⟨i, rfl, rfl, hgi, HB⟩ := hrel
              have HGI := Lib.hid hgi
              have hi : i ≤ k := by omega
              clear hgi
              obtain ⟨⟨hx0, hx1, hx2, hx3, _⟩, ⟨ht0, ht1, ht2, ht3, ht4, ht5⟩, ⟨hn0, hn1, hn2, hn3, hn4, hn5⟩⟩ := (show _ ∧ _ ∧ _ from ⟨(HBX.out _ HB.out).1.four, (HBX.out _ HB.out).2.1.six, (HBX.out _ HB.out).2.2.six⟩)
              by_cases hlt : i < k
              · have HLT := Lib.hid hlt
                have hiv : i < s.vals.length := by have := HVL1.out; omega
                have him : i < s.mail.length := by have := HML1.out; omega
                have hxb := HGI1.out.va i hlt
                have hmb := HGI1.out.ma i hlt
                have HAW := Lib.hid (show awk kd (sr : Int) s i = if s.fresh = false ∧ s.mail[i] = [] then (s.vals[i], false) else wkF kd (i : Int) (sr : Int) s.vals[i] s.phase s.fresh s.mail[i] from by
                  unfold awk; rw [aV_at hiv, mL_at him])
                rw [aV_at hiv] at hxb
                rw [mL_at him] at hmb
                obtain ⟨b, off, rfl, hc0, hc1⟩ := (HV.out.1.later HB.out).vl hiv
                obtain ⟨bm, offm, qr, dr, rfl, hcm, hq⟩ := (HR.out.later HB.out).get (List.getElem?_eq_getElem him)
                have HPHS := Lib.hid HGI1.out.ph
                have HUS := Lib.hid (show upMsgs kd (sr : Int) E s (i + 1) = upMsgs kd (sr : Int) E s i ++ (if (awk kd (sr : Int) s i).2 then E.flatMap (eMsgs kd s.phase i (awk kd (sr : Int) s i).1.1) else []) from upMsgs_succ kd (sr : Int) E s i)
                have HU1 := Lib.hid (HUB.out (i + 1) hlt)
                have hu0 := HUB.out i hi
                generalize (upMsgs kd (sr : Int) E s i) = ui at *
                generalize s.vals[i] = x at *
                generalize s.mail[i] = r at *
                generalize s.fresh = fr at *
                generalize s.phase = ph at *
                obtain ⟨x1, x2⟩ := x
                dsimp only at hc0 hc1 hxb
                have HQ := Lib.hid hq
                obtain ⟨⟨hxa1, hxa2⟩, hxb1, hxb2⟩ := hxb
                have hc190 := HCAP.out
                have hx199 : x1 ≤ 190 := by omega
                have hx200 : x2 < 200 := by omega
                have HMB2 := Lib.hid (show ∀ m ∈ r, 0 ≤ m ∧ m ≤ 199 from fun m hm => ⟨(hmb m hm).1, by have := (hmb m hm).2; omega⟩)
                have hi0 : (0 : Int) ≤ (i : Int) := by omega
                have hik : (i : Int) < (k : Int) := by omega
                have hd1 : decide ((i : Int) < (k : Int)) = true := by simp; omega
                have hd2 : decide (i < k) = true := by simp; omega
                have HWK := Lib.hid (show ∀ W, Below wr.heap.size wr W → _ from fun W hW => wake_ok kd ph fr ⟨hk1, hk3⟩ HPHS.out qr dr (i : Int) (sr : Int) (x1, x2) r W ⟨(HQ.out.later hW).1, fun m hm => by have := HMB2.out m hm; omega⟩ hi0 (by omega) hxa1 (by show x1 ≤ 199; omega) hxb1 (by show x2 < 200; omega) HMB2.out)
                dsimp only at HWK
                clear hq hmb hc190 hxa2 hxb2 hlt hiv him
                obtain ⟨sk, hsk⟩ : ∃ sk : Bool, sk = decide (fr = false ∧ r = []) := ⟨_, rfl⟩
                have HSKD := Lib.hid hsk
                clear hsk
                obtain ⟨w9, hw9⟩ : ∃ w9 : World, w9 = wr := ⟨_, rfl⟩
                rw [← hw9] at HB HQ HWK hx0 hx1 hx2 hx3 ht0 ht1 ht2 ht3 ht4 ht5 hn0 hn1 hn2 hn3 hn4 hn5 hc0 hc1 hcm ⊢
                clear hw9
                go_upto_region 19 with fail
                go_cut [109] (fun s109 wx => s109 = .bool sk ∧ w9 = wx)
                case first =>
                  cases fr with
                  | true =>
                    go_wp2_with fail
                    go_meet
                    case rel => exact ⟨by rw [HSKD.out]; rfl, rfl⟩
                  | false =>
                    by_cases hr : r = []
                    · subst hr
                      go_wp2_with fail
                      go_meet
                      case rel => exact ⟨by rw [HSKD.out]; rfl, rfl⟩
                    · have hr0 : 0 < r.length := List.length_pos_iff.2 hr
                      have hr1 : ((r.length : Int) == 0) = false := by simp; omega
                      go_wp2_with fail
                      go_meet
                      case rel => exact ⟨by rw [HSKD.out, decide_eq_false (fun h => hr h.2)], rfl⟩
                case rest =>
                obtain ⟨rfl, rfl⟩ := hcut
                cases sk with
                | true =>
                  have hcond := of_decide_eq_true HSKD.out.symm
                  have HU2 := Lib.hid (show upMsgs kd (sr : Int) E s (i + 1) = ui from by rw [HUS.out, HAW.out, if_pos hcond]; simp)
                  clear hcond
                  go_wp2_with fail
                  go_roundg (k - (i + 1))
                  case measure => have := HGI.out; have := HLT.out; omega
                  case rel => exact ⟨i + 1, by go_num, by rw [HU2.out], by have := HLT.out; omega, HB⟩
                | false =>
                  have hcond := of_decide_eq_false HSKD.out.symm
                  have HAW2 := Lib.hid (show awk kd (sr : Int) s i = wkF kd (i : Int) (sr : Int) (x1, x2) ph fr r from by rw [HAW.out, if_neg hcond])
                  clear hcond
                  generalize wkF kd (i : Int) (sr : Int) (x1, x2) ph fr r = res at HWK HAW2
                  rw [HAW2.out] at HUS
                  obtain ⟨⟨y1, y2⟩, sy⟩ := res
                  dsimp only at HWK HUS
                  have HSK := Lib.hid (show ∀ W, Below w9.heap.size w9 W → W.cell? ⟨g2, 2, none⟩ = some (.int .i64 (kd : Int)) ∧ W.cell? ⟨g2, 3, none⟩ = some (.int .i64 (sr : Int)) ∧ W.cell? ⟨b, off + i * 2, none⟩ = some (.int .i64 x1) ∧ W.cell? ⟨b, off + i * 2 + 1, none⟩ = some (.int .i64 x2) ∧ W.cell? ⟨g6, 1, none⟩ = some (.int .i64 (ph : Int)) ∧ W.cell? ⟨g6, 2, none⟩ = some (.bool fr) ∧ W.cell? ⟨g6, 5, none⟩ = some (.slice (some ⟨bm, offm, none⟩) k cmi) ∧ W.cell? ⟨bm, offm + i, none⟩ = some (.slice qr r.length dr) ∧ W.cell? ⟨g6, 4, none⟩ = some (.slice (some ⟨b, off, none⟩) k cvi) from fun W hW => ⟨below_cellOf hW hx2, below_cellOf hW hx3, below_cellOf hW hc0, below_cellOf hW hc1, below_cellOf hW ht1, below_cellOf hW ht2, below_cellOf hW ht5, below_cellOf hW hcm, below_cellOf hW ht4⟩)
                  obtain ⟨hs0, hs1, hs2, hs3, hs4, hs5, hs6, hs7, hs8⟩ := HSK.out w9 (Below.refl _ _)
                  go_upto_region 20 with fail
                  go_cut [21, 22, 23] (fun s21 s22 s23 wx => ∃ g10 : Nat, s21 = .pointer (some ⟨g10, 0, none⟩) ∧ s22 = .bool sy ∧ s23 = .int .i64 0 ∧ Hid (Below w9.heap.size w9 wx))
                  case first =>
                    go_region_held3 (fun w' => w'.cell? ⟨g2, 2, none⟩ = some (.int .i64 (kd : Int)) ∧ w'.cell? ⟨g2, 3, none⟩ = some (.int .i64 (sr : Int)) ∧ w'.cell? ⟨b, off + i * 2, none⟩ = some (.int .i64 x1) ∧ w'.cell? ⟨b, off + i * 2 + 1, none⟩ = some (.int .i64 x2) ∧ w'.cell? ⟨g6, 1, none⟩ = some (.int .i64 (ph : Int)) ∧ w'.cell? ⟨g6, 2, none⟩ = some (.bool fr) ∧ w'.cell? ⟨g6, 5, none⟩ = some (.slice (some ⟨bm, offm, none⟩) k cmi) ∧ w'.cell? ⟨bm, offm + i, none⟩ = some (.slice qr r.length dr) ∧ w'.cell? ⟨g6, 4, none⟩ = some (.slice (some ⟨b, off, none⟩) k cvi))
                      (first | (exact ⟨hs0, hs1, hs2, hs3, hs4, hs5, hs6, hs7, hs8⟩) | (exact HSK.out _ hbA) | (exact HSK.out _ (hbA.alloc hbA.size _)) | (exact HSK.out _ ((Below.refl _ w9).alloc (Nat.le_refl _) _)) | (exact HSK.out _ ((hbA.setCell (p := ⟨_, _, none⟩) (Nat.le_refl _) _).setCell (p := ⟨_, _, none⟩) (Nat.le_refl _) _)) | (exact HSK.out _ (((hbA.alloc hbA.size _).setCell (p := ⟨_, _, none⟩) hbA.size _).setCell (p := ⟨_, _, none⟩) hbA.size _)) | go_keep)
                      (first
                        | (go_at_call 13; (with_reducible refine (HWK.out w9.drew (Below.refl _ w9).drew).mono ?_); rintro e w10 ⟨rfl, hb10⟩; have hbA : Below w9.heap.size w9 w10 := ((Below.refl _ w9).drew).trans hb10; obtain ⟨hs0, hs1, hs2, hs3, hs4, hs5, hs6, hs7, hs8⟩ := HSK.out _ hbA)
                        | (go_at_call 13; (with_reducible refine (HWK.out _ ((Below.refl _ w9).alloc (Nat.le_refl _) _).drew).mono ?_); rintro e w10 ⟨rfl, hb10⟩; have hbA : Below w9.heap.size w9 w10 := ((Below.refl _ w9).alloc (Nat.le_refl _) _).drew.trans (hb10.mono ((Below.refl _ w9).alloc (Nat.le_refl _) _).drew.size); have HNB := Lib.hid ((show Bx (w9.alloc (.cells #[Value.int .i64 0, Value.int .i64 0] 40)).drew w9.heap.size [Value.int .i64 0, Value.int .i64 0] from bx_new w9 [Value.int .i64 0, Value.int .i64 0] 40).next hb10); obtain ⟨hm0, hm1, hm2, hm3⟩ := HNB.out.two; obtain ⟨hs0, hs1, hs2, hs3, hs4, hs5, hs6, hs7, hs8⟩ := HSK.out _ hbA)
                        | fail)
                    all_goals go_wp2_with fail
                    all_goals go_meet
                    · exact ⟨_, rfl, rfl, rfl, Lib.hid (hbA.alloc hbA.size _)⟩
                    · exact ⟨_, rfl, rfl, rfl, Lib.hid ((hbA.setCell (p := ⟨w9.heap.size, 0, none⟩) (Nat.le_refl _) _).setCell (p := ⟨w9.heap.size, 1, none⟩) (Nat.le_refl _) _)⟩
                  case rest =>
                  obtain ⟨g10, rfl, rfl, rfl, HBC⟩ := hcut
                  obtain ⟨w10, hw10⟩ : ∃ w10 : World, w10 = wc := ⟨_, rfl⟩
                  rw [← hw10] at HBC ⊢
                  clear hw10 HWK HSK hs0 hs1 hs2 hs3 hs4 hs5 hs6 hs7 hs8 HQ hx0 hx1 hx2 hx3 ht0 ht1 ht2 ht3 ht4 ht5 hn0 hn1 hn2 hn3 hn4 hn5 hc0 hc1 hcm hd1 hd2
                  have HB10 := Lib.hid (HB.out.trans (HBC.out.mono HB.out.size))
                  clear HB HBC
                  obtain ⟨⟨hx0, hx1, hx2, hx3, _⟩, ⟨ht0, ht1, ht2, ht3, ht4, ht5⟩⟩ := (show _ ∧ _ from ⟨(HBX.out _ HB10.out).1.four, (HBX.out _ HB10.out).2.1.six⟩)
                  have HWY := Lib.hid (ways_ok kd ph ⟨hk1, hk3⟩ HPHS.out w10)
                  obtain ⟨bo, hbo⟩ : ∃ bo, bo = wayO kd ph := ⟨_, rfl⟩
                  obtain ⟨bi, hbi⟩ : ∃ bi, bi = wayI kd ph := ⟨_, rfl⟩
                  have HEM := Lib.hid (show ∀ e : Eg, (eMsgs kd ph i y1 e).length = (if bo && e.1 == i then 1 else 0) + (if bi && e.2.1 == i then 1 else 0) from fun e => by
                    unfold eMsgs; rw [List.length_append, ← hbo, ← hbi]
                    (repeat' split) <;> rfl)
                  rw [← hbo, ← hbi] at HWY
                  clear hbo hbi
                  go_wp2_with fail
                  refine HWY.out.mono ?_; rintro e w11 ⟨rfl, hb11⟩
                  have HB11 := Lib.hid (HB10.out.trans (hb11.mono HB10.out.size))
                  clear hb11 HB10 HWY hx0 hx1 hx2 hx3 ht0 ht1 ht2 ht3 ht4 ht5
                  obtain ⟨⟨hx0, hx1, hx2, hx3, _⟩, ⟨ht0, ht1, ht2, ht3, ht4, ht5⟩⟩ := (show _ ∧ _ from ⟨(HBX.out _ HB11.out).1.four, (HBX.out _ HB11.out).2.1.six⟩)
                  cases sy with
                  | false =>
                    have HU2 := Lib.hid (show upMsgs kd (sr : Int) E s (i + 1) = ui from by rw [HUS.out]; simp)
                    go_wp2_with fail
                    go_loopg [19, 27] 0 (fun gk v19 v27 wr => v19 = .int .i64 ((ui.length : Nat) : Int) ∧ v27 = .int .i64 0 ∧ w11 = wr)
                    case atStart => exact ⟨rfl, rfl, rfl⟩
                    case round =>
                      obtain ⟨rfl, rfl, rfl⟩ := hrel
                      by_cases hn0 : 0 < n
                      · have hd5 : decide ((0 : Int) < (n : Int)) = true := by simp; omega
                        have hd6 : decide (0 < n) = true := by simp; omega
                        go_wp2_with fail
                        go_roundg (k - (i + 1))
                        case measure => have := HGI.out; have := HLT.out; omega
                        case rel => exact ⟨i + 1, by go_num, by rw [HU2.out], by have := HLT.out; omega, HB11⟩
                      · obtain rfl : n = 0 := by omega
                        go_wp2_with fail
                        go_roundg (k - (i + 1))
                        case measure => have := HGI.out; have := HLT.out; omega
                        case rel => exact ⟨i + 1, by go_num, by rw [HU2.out], by have := HLT.out; omega, HB11⟩
                  | true =>
                    obtain ⟨LJ, hLJ⟩ : ∃ LJ : Nat → Nat, LJ = fun j => ((E.take j).flatMap (eMsgs kd ph i y1)).length := ⟨_, rfl⟩
                    have HL0 := Lib.hid (show LJ 0 = 0 from by rw [hLJ]; rfl)
                    have HLS := Lib.hid (show ∀ (j : Nat) (hj : j < E.length), LJ (j + 1) = LJ j + (eMsgs kd ph i y1 E[j]).length from fun j hj => by
                      rw [hLJ]; dsimp only
                      rw [List.take_succ_eq_append_getElem hj, List.flatMap_append, List.length_append]; simp)
                    have HLN := Lib.hid (show (upMsgs kd (sr : Int) E s (i + 1)).length = ui.length + LJ n from by
                      rw [HUS.out, hLJ, List.length_append]; dsimp only
                      rw [List.take_of_length_le (by rw [HN.out]; exact Nat.le_refl _)]; simp)
                    have HLE := Lib.hid (show ∀ j, LJ j ≤ LJ n from fun j => by
                      have h1 : (E.take j).flatMap (eMsgs kd ph i y1) ++ (E.drop j).flatMap (eMsgs kd ph i y1) = E.flatMap (eMsgs kd ph i y1) := by rw [← List.flatMap_append, List.take_append_drop]
                      have h2 : LJ n = (E.flatMap (eMsgs kd ph i y1)).length := by rw [hLJ]; dsimp only; rw [List.take_of_length_le (by rw [HN.out]; exact Nat.le_refl _)]
                      rw [h2, ← h1, List.length_append, hLJ]; dsimp only; omega)
                    have hun : ui.length + LJ n ≤ 400 := by have := HU1.out; rw [HLN.out] at this; exact this
                    clear hLJ
                    go_wp2_with fail
                    go_loopg [19, 27] n (fun gk v19 v27 wr => ∃ j : Nat, v27 = .int .i64 (j : Int) ∧ v19 = .int .i64 ((ui.length + LJ j : Nat) : Int) ∧ j + gk = n ∧ w11 = wr)
                    case atStart => exact ⟨0, rfl, by rw [HL0.out]; rfl, by omega, rfl⟩
                    case round =>
                      obtain ⟨j, rfl, rfl, hgj, rfl⟩ := hrel
                      have HGJ := Lib.hid hgj
                      have hj : j ≤ n := by omega
                      clear hgj
                      by_cases hltj : j < n
                      · have HLTJ := Lib.hid hltj
                        have hjl : j < E.length := by have := HN.out; omega
                        have hls := HLS.out j hjl
                        rw [HEM.out] at hls
                        have hle := HLE.out (j + 1)
                        obtain ⟨eb, eo, rfl, he0, he1, he2⟩ := (HED.out _ (HW2.out _ HB11.out)).edge hjl
                        generalize E[j] = eg at *
                        obtain ⟨e1, e2, e3⟩ := eg
                        dsimp only at he0 he1 he2 hls
                        have hj0 : (0 : Int) ≤ (j : Int) := by omega
                        have hjn : (j : Int) < (n : Int) := by omega
                        have hd5 : decide ((j : Int) < (n : Int)) = true := by simp; omega
                        have hd6 : decide (j < n) = true := by simp; omega
                        obtain ⟨c1, hc1⟩ : ∃ c1, c1 = (bo && e1 == i) := ⟨_, rfl⟩
                        obtain ⟨c2, hc2⟩ : ∃ c2, c2 = (bi && e2 == i) := ⟨_, rfl⟩
                        rw [← hc1, ← hc2] at hls
                        have hsm : ui.length + LJ j + (if c1 = true then 1 else 0) + (if c2 = true then 1 else 0) ≤ 400 := by omega
                        have hsm1 : ui.length + LJ j ≤ 400 := by omega
                        have HC1 := Lib.hid hc1
                        have HC2 := Lib.hid hc2
                        have HLS2 := Lib.hid hls
                        generalize hlj : LJ j = lj at *
                        obtain ⟨ul, hul⟩ : ∃ ul, ul = ui.length + lj := ⟨_, rfl⟩
                        rw [← hul] at hsm1 ⊢
                        have HUL := Lib.hid hul
                        clear hc1 hc2 hls hle hjl hltj hul hsm hlj
                        obtain ⟨w12, hw12⟩ : ∃ w12 : World, w12 = w11 := ⟨_, rfl⟩
                        have HWE := Lib.hid hw12.symm
                        rw [← hw12] at hx0 hx1 hx2 hx3 he0 he1 he2 ⊢
                        clear hw12
                        go_upto_region 27 with fail
                        go_cut [171] (fun s171 wx => s171 = .bool c1 ∧ w12 = wx)
                        case first =>
                          cases bo with
                          | false =>
                            have hc : c1 = false := by rw [HC1.out]; rfl
                            subst hc
                            go_wp2_with fail
                            go_meet
                            case rel => exact ⟨rfl, rfl⟩
                          | true =>
                            by_cases hei : e1 = i
                            · have hb : ((e1 : Int) == (i : Int)) = true := by simp [hei]
                              have hc : c1 = true := by rw [HC1.out]; simp [hei]
                              subst hc
                              clear hei
                              go_wp2_with fail
                              go_meet
                              case rel => exact ⟨rfl, rfl⟩
                            · have hb : ((e1 : Int) == (i : Int)) = false := by simp; omega
                              have hc : c1 = false := by rw [HC1.out]; simp [hei]
                              subst hc
                              clear hei
                              go_wp2_with fail
                              go_meet
                              case rel => exact ⟨rfl, rfl⟩
                        case rest =>
                        obtain ⟨rfl, rfl⟩ := hcut
                        cases c1 with
                        | false =>
                          go_upto_region 29 with fail
                          go_cut [185] (fun s185 wx => s185 = .bool c2 ∧ w12 = wx)
                          case first =>
                            cases bi with
                            | false =>
                              have hc : c2 = false := by rw [HC2.out]; rfl
                              subst hc
                              go_wp2_with fail
                              go_meet
                              case rel => exact ⟨rfl, rfl⟩
                            | true =>
                              by_cases hei : e2 = i
                              · have hb : ((e2 : Int) == (i : Int)) = true := by simp [hei]
                                have hc : c2 = true := by rw [HC2.out]; simp [hei]
                                subst hc
                                clear hei
                                go_wp2_with fail
                                go_meet
                                case rel => exact ⟨rfl, rfl⟩
                              · have hb : ((e2 : Int) == (i : Int)) = false := by simp; omega
                                have hc : c2 = false := by rw [HC2.out]; simp [hei]
                                subst hc
                                clear hei
                                go_wp2_with fail
                                go_meet
                                case rel => exact ⟨rfl, rfl⟩
                          case rest =>
                          obtain ⟨rfl, rfl⟩ := hcut
                          have hls := HLS2.out
                          cases c2 with
                          | false =>
                            have HLS3 := Lib.hid (show ui.length + LJ (j + 1) = ul from by have h1 := hls; have h2 := HUL.out; simp at h1; omega)
                            clear hls
                            go_wp2_with fail
                            go_roundg (n - (j + 1))
                            case measure => have := HGJ.out; have := HLTJ.out; omega
                            case rel => exact ⟨j + 1, by go_num, by rw [HLS3.out] <;> go_num, by have := HLTJ.out; omega, HWE.out⟩
                          | true =>
                            have HLS3 := Lib.hid (show ui.length + LJ (j + 1) = ul + 1 from by have h1 := hls; have h2 := HUL.out; simp at h1; omega)
                            clear hls
                            go_wp2_with fail
                            go_roundg (n - (j + 1))
                            case measure => have := HGJ.out; have := HLTJ.out; omega
                            case rel => exact ⟨j + 1, by go_num, by rw [HLS3.out] <;> go_num, by have := HLTJ.out; omega, HWE.out⟩
                        | true =>
                          go_upto_region 29 with fail
                          go_cut [185] (fun s185 wx => s185 = .bool c2 ∧ w12 = wx)
                          case first =>
                            cases bi with
                            | false =>
                              have hc : c2 = false := by rw [HC2.out]; rfl
                              subst hc
                              go_wp2_with fail
                              go_meet
                              case rel => exact ⟨rfl, rfl⟩
                            | true =>
                              by_cases hei : e2 = i
                              · have hb : ((e2 : Int) == (i : Int)) = true := by simp [hei]
                                have hc : c2 = true := by rw [HC2.out]; simp [hei]
                                subst hc
                                clear hei
                                go_wp2_with fail
                                go_meet
                                case rel => exact ⟨rfl, rfl⟩
                              · have hb : ((e2 : Int) == (i : Int)) = false := by simp; omega
                                have hc : c2 = false := by rw [HC2.out]; simp [hei]
                                subst hc
                                clear hei
                                go_wp2_with fail
                                go_meet
                                case rel => exact ⟨rfl, rfl⟩
                          case rest =>
                          obtain ⟨rfl, rfl⟩ := hcut
                          have hls := HLS2.out
                          cases c2 with
                          | false =>
                            have HLS3 := Lib.hid (show ui.length + LJ (j + 1) = ul + 1 from by have h1 := hls; have h2 := HUL.out; simp at h1; omega)
                            clear hls
                            go_wp2_with fail
                            go_roundg (n - (j + 1))
                            case measure => have := HGJ.out; have := HLTJ.out; omega
                            case rel => exact ⟨j + 1, by go_num, by rw [HLS3.out] <;> go_num, by have := HLTJ.out; omega, HWE.out⟩
                          | true =>
                            have HLS3 := Lib.hid (show ui.length + LJ (j + 1) = ul + 1 + 1 from by have h1 := hls; have h2 := HUL.out; simp at h1; omega)
                            clear hls
                            go_wp2_with fail
                            go_roundg (n - (j + 1))
                            case measure => have := HGJ.out; have := HLTJ.out; omega
                            case rel => exact ⟨j + 1, by go_num, by rw [HLS3.out] <;> go_num, by have := HLTJ.out; omega, HWE.out⟩
                      · obtain rfl : j = n := by omega
                        have hd5 : decide ((j : Int) < (j : Int)) = false := by simp
                        have hd6 : decide (j < j) = false := by simp
                        go_wp2_with fail
                        go_roundg (k - (i + 1))
                        case measure => have := HGI.out; have := HLT.out; omega
                        case rel => exact ⟨i + 1, by go_num, by rw [HLN.out], by have := HLT.out; omega, HB11⟩
              · obtain rfl : i = k := by omega
                obtain ⟨ul, hul⟩ : ∃ ul, ul = (upMsgs kd (sr : Int) E s i).length := ⟨_, rfl⟩
                rw [← hul] at HMU ⊢
                obtain rfl : many = ul := HMU.out
                have HQUI := Lib.hid (show many ≠ 0 → s2.fresh = false ∧ s2.done = false from fun hm => by
                  have ha : anyL (nMail kd (sr : Int) i E s) = true := by
                    cases h : anyL (nMail kd (sr : Int) i E s) with
                    | true => rfl
                    | false =>
                      exfalso
                      apply hm
                      rw [hul, ← nMail_sum HJE.out s]
                      apply sum_zero
                      intro y hy
                      obtain ⟨r, hr, rfl⟩ := List.mem_map.1 hy
                      obtain ⟨v, hv, rfl⟩ := List.mem_iff_getElem.1 hr
                      have h1 := anyL_false h v
                      rw [List.getD_eq_getElem?_getD, List.getElem?_eq_getElem hv] at h1
                      simp at h1
                      rw [h1]; rfl
                  rw [HNE.out, nextF_any HDN.out ha]
                  exact ⟨rfl, rfl⟩)
                have hd1 : decide ((i : Int) < (i : Int)) = false := by simp
                have hd2 : decide (i < i) = false := by simp
                have hmm : ((many : Int) == (many : Int)) = true := by simp
                clear hlt hul HMU HNE
                by_cases hm : many = 0
                · subst hm
                  go_wp2_with fail
                  go_ret
                  exact ⟨rfl, HBW.out.trans ((HW2.out _ HB.out).mono HBW.out.size)⟩
                · obtain ⟨hf1, hf2⟩ := HQUI.out hm
                  rw [hf1] at hn2
                  rw [hf2] at hn3
                  have hm1 : ((many : Int) == 0) = false := by simp; omega
                  clear hf1 hf2 hm
                  go_wp2_with fail
                  go_ret
                  exact ⟨rfl, HBW.out.trans ((HW2.out _ HB.out).mono HBW.out.size)⟩
end Go.Proofs.Ytiaflhlfodcbjaa
