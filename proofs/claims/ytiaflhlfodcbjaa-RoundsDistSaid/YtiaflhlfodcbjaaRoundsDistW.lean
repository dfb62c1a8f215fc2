/- The walk of the law RoundsDist. -/
import Derived.Test.YtiaflhlfodcbjaaRoundsP
import Derived.Test.YtiaflhlfodcbjaaDist
import Derived.IntWalk
import Derived.Test.YtiaflhlfodcbjaaPRndD
namespace Go.Proofs.Ytiaflhlfodcbjaa
open Go.RowKit
set_option maxHeartbeats 16000000 in
set_option maxRecDepth 100000 in
theorem roundsDist_walk (w : World) (a0 : Int) (ha0 : -9223372036854775808 ≤ a0) (ha1 : a0 ≤ 9223372036854775807) (v1 : Value) (l1 : List (List Int)) (h1 : IsR 3 w v1 l1) (a2 : Int) (ha2 : -9223372036854775808 ≤ a2) (ha3 : a2 ≤ 9223372036854775807) :
    Calls Try.prog 8 #[.int .i64 a0, v1, .int .i64 a2] w fun e w' => e = .returned (.bool true) ∧ Below w.heap.size w w' := by
  obtain ⟨p1, c1, rfl⟩ := h1.val
  have HM := Lib.hid (made_ok a0 p1 c1 _ l1 8 w ha0 ha1 h1 (by omega) (by omega))
  have hpk := pickN_lt a0 (m := 8) (by decide)
  clear h1 ha0 ha1
  obtain ⟨N, hN⟩ : ∃ N, N = 1 + pickN a0 8 := ⟨_, rfl⟩
  rw [← hN] at HM
  have hN1 : 1 ≤ N := by omega
  have hN10 : N ≤ 10 := by omega
  have hG := Lib.hid (edgesL_in N l1 (by omega))
  have hn10 := edgesL_len N l1
  clear hN hpk
  generalize edgesL N l1 = E at *
  obtain ⟨n, hn⟩ : ∃ n, n = E.length := ⟨_, rfl⟩
  rw [← hn] at HM hn10
  have HN := Lib.hid hn
  clear hn
  go_enter Try.func8, Try.ntmps8
  go_wp2_with fail
  refine HM.out.mono ?_; rintro e w1 ⟨q1, d1, rfl, ho1, hb1⟩
  have HS1 := Lib.hid (Sl.of_own ho1)
  have hz1 := hb1.size
  clear ho1 HM
  obtain ⟨b2, B2, z2⟩ := boxed0 w1 [.int .i64 (N : Int), .slice q1 n d1] 25
  go_upto_region 2 with fail
  obtain ⟨w2, hw2⟩ : ∃ w2 : World, w2 = w1.alloc (.cells #[.int .i64 (N : Int), .slice q1 n d1] 25) := ⟨_, rfl⟩
  obtain ⟨g2, hg2⟩ : ∃ g2, g2 = w1.heap.size := ⟨_, rfl⟩
  have e2 : (w1.alloc (.cells (List.toArray [Value.int .i64 (N : Int), .slice q1 n d1]) 25)) = w2 := hw2.symm
  rw [e2] at b2 B2 z2
  have HS2 := Lib.hid (HS1.out.later b2)
  have HBX := Lib.hid B2
  have HB2 := Lib.hid (hb1.trans (b2.mono hz1))
  rw [← hg2] at HBX
  rw [← hw2, ← hg2]
  obtain ⟨hx0, hx1, _, _⟩ := HBX.out.two
  have HPK := Lib.hid (fun W => picked_any a2 N W ha2 ha3 hN1 (by omega))
  have hsr := pickN_lt a2 (m := N) hN1
  generalize pickN a2 N = sr at HPK hsr
  clear ha2 ha3 hw2 hg2 e2 b2 B2 z2
  have HSK := Lib.hid (show ∀ W, Below w2.heap.size w2 W → W.cell? ⟨g2, 0, none⟩ = some (.int .i64 (N : Int)) ∧ W.cell? ⟨g2, 1, none⟩ = some (.slice q1 n d1) from fun W hW => ⟨(HBX.out.next hW).two.1, (HBX.out.next hW).two.2.1⟩)
  go_cut [8] (fun s8 wx => ∃ g8 : Nat, s8 = .pointer (some ⟨g8, 0, none⟩) ∧ Hid (Bx wx g8 [.int .i64 (N : Int), .slice q1 n d1, .int .i64 1, .int .i64 (sr : Int)]) ∧ Hid (Below w2.heap.size w2 wx))
  case first =>
    go_region_held3 (fun w' => w'.cell? ⟨g2, 0, none⟩ = some (.int .i64 (N : Int)) ∧ w'.cell? ⟨g2, 1, none⟩ = some (.slice q1 n d1))
      (first | (exact ⟨hx0, hx1⟩) | (exact HSK.out _ ((Below.refl _ w2).alloc (Nat.le_refl _) _)) | go_keep)
      (first
        | (go_at_call 11; (with_reducible refine (HPK.out w2.drew).mono ?_); rintro e w9 ⟨rfl, rfl⟩)
        | (go_at_call 11; (with_reducible refine (HPK.out (w2.alloc _).drew).mono ?_); rintro e w9 ⟨rfl, rfl⟩)
        | fail)
    all_goals go_wp2_with fail
    all_goals go_meet
    all_goals exact ⟨_, rfl, Lib.hid (bx_new w2 _ _), Lib.hid (alloc_below w2 _).drew⟩
  case rest =>
  obtain ⟨g8, rfl, HJX, HB8⟩ := hcut
  obtain ⟨w8, hw8⟩ : ∃ w8 : World, w8 = wc := ⟨_, rfl⟩
  rw [← hw8] at HJX HB8 ⊢
  clear hw8 HSK hx0 hx1 HPK
  have HSa := Lib.hid (HS2.out.later HB8.out)
  have HBXa := Lib.hid (HBX.out.next HB8.out)
  have HB2a := Lib.hid (HB2.out.trans (HB8.out.mono HB2.out.size))
  clear HS2 HBX HB2 HB8
  obtain ⟨K, hK1, hK2, hKE⟩ := low_run (kind := 1) (src := (sr : Int)) (.inl rfl) hG.out
  have HRI := Lib.hid (runs_low ⟨hN1, hN10⟩ hK1 hK2 hKE)
  obtain ⟨hgd, hstp, hdn⟩ := HRI.out.good hG.out ⟨hN1, hN10⟩ (by have := HN.out; omega)
  have HEL := Lib.hid hKE.last.2
  have HJ := Lib.hid (show JobOk w8 q1 d1 n N 1 (sr : Int) E from ⟨HSa.out, hG.out, hN1, hN10, by omega, by omega, by omega, by omega, by omega⟩)
  have HRAN := Lib.hid (ran_ok q1 d1 n N 1 K (sr : Int) E w8 HJ.out (by have := HN.out; omega) HRI.out)
  obtain ⟨sF, hsF⟩ : ∃ sF, sF = itF (nextF 1 (sr : Int) N E) K (beginF N) := ⟨_, rfl⟩
  rw [← hsF] at hgd hstp hdn HEL HRAN
  have HGD := Lib.hid hgd
  have HST := Lib.hid hstp
  clear hsF hgd hstp hdn hKE HRI hz1 hb1 HS1
  unfold jobV at HRAN
  obtain ⟨hx0, hx1, hx2, hx3, _⟩ := HJX.out.four
  go_wp2_with fail
  refine HRAN.out.mono ?_; rintro e w3 ⟨q3, d3, v3, rfl, ho3, hs3, hb3⟩
  obtain ⟨pv, pm, cv, cm, rfl, -, -, -⟩ := hs3
  have HO3 := Lib.hid ho3
  have HB3 := Lib.hid (HB2a.out.trans (hb3.mono HB2a.out.size))
  have HBX3 := Lib.hid (HBXa.out.next hb3)
  have HJX3 := Lib.hid (HJX.out.next hb3)
  have HS3 := Lib.hid (HSa.out.later hb3)
  rw [HST.out]
  clear ho3 hb3 hx0 hx1 hx2 hx3 HRAN
  obtain ⟨b4, B4, z4⟩ := boxed0 w3 [.int .i64 (K : Int), .int .i64 (sF.phase : Int), .bool sF.fresh, .bool sF.done, .slice pv N cv, .slice pm N cm] 32
  go_upto_region 4 with fail
  obtain ⟨w4, hw4⟩ : ∃ w4 : World, w4 = w3.alloc (.cells #[.int .i64 (K : Int), .int .i64 (sF.phase : Int), .bool sF.fresh, .bool sF.done, .slice pv N cv, .slice pm N cm] 32) := ⟨_, rfl⟩
  obtain ⟨g4, hg4⟩ : ∃ g4, g4 = w3.heap.size := ⟨_, rfl⟩
  have e4 : (w3.alloc (.cells (List.toArray [Value.int .i64 (K : Int), .int .i64 (sF.phase : Int), .bool sF.fresh, .bool sF.done, .slice pv N cv, .slice pm N cm]) 32)) = w4 := hw4.symm
  rw [e4] at b4 B4 z4
  rw [← hg4] at B4
  rw [← hw4, ← hg4]
  have HO4 := Lib.hid (own_later HO3.out b4)
  have HB4 := Lib.hid (HB3.out.trans (b4.mono HB3.out.size))
  have HBX4 := Lib.hid (HBX3.out.next b4)
  have HJX4 := Lib.hid (HJX3.out.next b4)
  have HS4 := Lib.hid (HS3.out.later b4)
  have HT4 := Lib.hid B4
  have HWK := Lib.hid (distP_ok N n d1 sr q1 E w4 HS4.out hG.out (by omega) (by omega) hsr)
  obtain ⟨hx0, hx1, _, _⟩ := HBX4.out.two
  obtain ⟨hj0, hj1, hj2, hj3, _⟩ := HJX4.out.four
  clear hw4 hg4 e4 b4 B4 z4 HO3 HB3 HBX3 HS3
  go_wp2_with fail
  refine HWK.out.mono ?_; rintro e w5 ⟨g5, far, rfl, ho5, hfl, htd, -, hb5⟩
  have HO5 := Lib.hid (own_later HO4.out hb5)
  have HB5 := Lib.hid (HB4.out.trans (hb5.mono HB4.out.size))
  have HA := Lib.hid (ans_isI HO5.out HGD.out hN10 (by rw [HST.out]; omega))
  have HEQ := Lib.hid (show ansF 1 sF = far.map (fun (x : Nat) => (x : Int) - 1) from ansF_ext HGD.out.vl (by rw [List.length_map]; exact hfl) (fun v hv => by
    rw [if_neg (by omega), dist_same HEL.out htd hv, List.getElem?_map]
    unfold fv
    rw [List.getD_eq_getElem?_getD, List.getElem?_eq_getElem (by omega)]; rfl))
  have HW := Lib.hid (show IsI w5 (.slice (some ⟨g5, 0, none⟩) N N) (ansF 1 sF) from by
    refine ⟨?_, HA.out.2⟩
    have h1 := Sl.of_own ho5
    rw [show fds far = its (far.map (fun (x : Nat) => (x : Int) - 1)) from by unfold fds its; rw [List.map_map]; rfl, ← HEQ.out] at h1
    have h2 : (ansF 1 sF).length = N := by rw [ansF_len, HGD.out.vl]
    rw [h2]; exact h1)
  have HSI := Lib.hid (sameInts_true q3 (some ⟨g5, 0, none⟩) d3 N N N _ w5 HA.out HW.out)
  have HBX5 := Lib.hid (HBX4.out.next hb5)
  have HT5 := Lib.hid (HT4.out.next hb5)
  obtain ⟨hx0, hx1, _, _⟩ := HBX5.out.two
  have ht0 := HT5.out.six.1
  clear htd hfl ho5 hb5 HWK
  have hle : decide ((K : Int) ≤ (N : Int) + 1) = true := by simp; omega
  have hnn : ((N : Int) == (N : Int)) = true := by simp
  go_wp2_with fail
  refine HSI.out.mono ?_; rintro e w6 ⟨rfl, hb6⟩
  have HB6 := Lib.hid (HB5.out.trans (hb6.mono HB5.out.size))
  obtain ⟨hx0, hx1, _, _⟩ := (HBX5.out.next hb6).two
  have ht0 := (HT5.out.next hb6).six.1
  clear hb6
  go_wp2_with fail
  go_ret
  exact ⟨rfl, HB6.out⟩
end Go.Proofs.Ytiaflhlfodcbjaa
