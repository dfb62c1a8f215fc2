/- The walk of the law RoundsStrong. -/
import Derived.Test.YtiaflhlfodcbjaaRoundsP
import Derived.Test.YtiaflhlfodcbjaaStrong
namespace Go.Proofs.Ytiaflhlfodcbjaa
open Go.RowKit
set_option maxHeartbeats 16000000 in
set_option maxRecDepth 100000 in
theorem roundsStrong_walk (w : World) (a0 : Int) (ha0 : -9223372036854775808 ≤ a0) (ha1 : a0 ≤ 9223372036854775807) (v1 : Value) (l1 : List (List Int)) (h1 : IsR 3 w v1 l1) :
    Calls Try.prog 7 #[.int .i64 a0, v1] w fun e w' => e = .returned (.bool true) ∧ Below w.heap.size w w' := by
  obtain ⟨p1, c1, rfl⟩ := h1.val
  have HM := Lib.hid (made_ok a0 p1 c1 _ l1 8 w ha0 ha1 h1 (by omega) (by omega))
  have hpk := pickN_lt a0 (m := 8) (by decide)
  clear h1 ha0 ha1
  obtain ⟨N, hN⟩ : ∃ N, N = 1 + pickN a0 8 := ⟨_, rfl⟩
  rw [← hN] at HM
  have hN1 : 1 ≤ N := by omega
  have hN10 : N ≤ 10 := by omega
  have hG := Lib.hid (edgesL_in N l1 (by omega))
  have hn10 := edgesL_len N l1
  clear hN hpk
  generalize edgesL N l1 = E at *
  obtain ⟨n, hn⟩ : ∃ n, n = E.length := ⟨_, rfl⟩
  rw [← hn] at HM hn10
  have HN := Lib.hid hn
  clear hn
  go_enter Try.func7, Try.ntmps7
  go_wp2_with fail
  refine HM.out.mono ?_; rintro e w1 ⟨q1, d1, rfl, ho1, hb1⟩
  have HS1 := Lib.hid (Sl.of_own ho1)
  have hz1 := hb1.size
  clear ho1 HM
  obtain ⟨K, hK1, hK2, hKE⟩ := strong_run (src := 0) hG.out hN1
  have HRI := Lib.hid (runs_strong ⟨hN1, hN10⟩ hK1 hK2 hKE)
  obtain ⟨hgd, hstp, hdn⟩ := HRI.out.good hG.out ⟨hN1, hN10⟩ (by have := HN.out; omega)
  have HEL := Lib.hid hKE.last.2
  obtain ⟨b2, B2, z2⟩ := boxed0 w1 [.int .i64 (N : Int), .slice q1 n d1] 25
  go_upto_region 2 with fail
  obtain ⟨w2, hw2⟩ : ∃ w2 : World, w2 = w1.alloc (.cells #[.int .i64 (N : Int), .slice q1 n d1] 25) := ⟨_, rfl⟩
  obtain ⟨g2, hg2⟩ : ∃ g2, g2 = w1.heap.size := ⟨_, rfl⟩
  have e2 : (w1.alloc (.cells (List.toArray [Value.int .i64 (N : Int), .slice q1 n d1]) 25)) = w2 := hw2.symm
  rw [e2] at b2 B2 z2
  have HS2 := Lib.hid (HS1.out.later b2)
  have HBX := Lib.hid B2
  have HB2 := Lib.hid (hb1.trans (b2.mono hz1))
  rw [← hg2] at HBX
  rw [← hw2, ← hg2]
  obtain ⟨hx0, hx1, _, _⟩ := HBX.out.two
  have HJ := Lib.hid (show JobOk w2 q1 d1 n N 3 0 E from ⟨HS2.out, hG.out, hN1, hN10, by omega, by omega, by omega, by omega, by omega⟩)
  have HRAN := Lib.hid (ran_ok q1 d1 n N 3 K 0 E w2 HJ.out (by have := HN.out; omega) HRI.out)
  obtain ⟨sF, hsF⟩ : ∃ sF, sF = itF (nextF 3 0 N E) K (beginF N) := ⟨_, rfl⟩
  rw [← hsF] at hgd hstp hdn HEL HRAN
  have HGD := Lib.hid hgd
  have HST := Lib.hid hstp
  clear hw2 hg2 e2 b2 B2 z2 hsF hgd hstp hdn hKE HRI hz1 hb1 HS1
  unfold jobV at HRAN
  go_wp2_with fail
  refine HRAN.out.mono ?_; rintro e w3 ⟨q3, d3, v3, rfl, ho3, hs3, hb3⟩
  obtain ⟨pv, pm, cv, cm, rfl, -, -, -⟩ := hs3
  have HO3 := Lib.hid ho3
  have HB3 := Lib.hid (HB2.out.trans (hb3.mono HB2.out.size))
  have HBX3 := Lib.hid (HBX.out.next hb3)
  have HS3 := Lib.hid (HS2.out.later hb3)
  rw [HST.out]
  clear ho3 hb3 hx0 hx1 HRAN
  obtain ⟨b4, B4, z4⟩ := boxed0 w3 [.int .i64 (K : Int), .int .i64 (sF.phase : Int), .bool sF.fresh, .bool sF.done, .slice pv N cv, .slice pm N cm] 32
  go_upto_region 3 with fail
  obtain ⟨w4, hw4⟩ : ∃ w4 : World, w4 = w3.alloc (.cells #[.int .i64 (K : Int), .int .i64 (sF.phase : Int), .bool sF.fresh, .bool sF.done, .slice pv N cv, .slice pm N cm] 32) := ⟨_, rfl⟩
  obtain ⟨g4, hg4⟩ : ∃ g4, g4 = w3.heap.size := ⟨_, rfl⟩
  have e4 : (w3.alloc (.cells (List.toArray [Value.int .i64 (K : Int), .int .i64 (sF.phase : Int), .bool sF.fresh, .bool sF.done, .slice pv N cv, .slice pm N cm]) 32)) = w4 := hw4.symm
  rw [e4] at b4 B4 z4
  rw [← hg4] at B4
  rw [← hw4, ← hg4]
  have HO4 := Lib.hid (own_later HO3.out b4)
  have HB4 := Lib.hid (HB3.out.trans (b4.mono HB3.out.size))
  have HBX4 := Lib.hid (HBX3.out.next b4)
  have HS4 := Lib.hid (HS3.out.later b4)
  have HT4 := Lib.hid B4
  have HWK := Lib.hid (strong_ok N n d1 q1 E w4 HS4.out hG.out (by omega) (by omega))
  obtain ⟨hx0, hx1, _, _⟩ := HBX4.out.two
  clear hw4 hg4 e4 b4 B4 z4 HO3 HB3 HBX3 HS3
  go_wp2_with fail
  refine HWK.out.mono ?_; rintro e w5 ⟨g5, rfl, ho5, hb5⟩
  have HO5 := Lib.hid (own_later HO4.out hb5)
  have HB5 := Lib.hid (HB4.out.trans (hb5.mono HB4.out.size))
  have HA := Lib.hid (ans_isI HO5.out HGD.out hN10 (by rw [HST.out]; have h6 : N * (2 * N + 3) ≤ 10 * 23 := Nat.mul_le_mul hN10 (by omega); omega))
  have HEQ := Lib.hid (show ansF 3 sF = labs E N N 0 from ansF_ext HGD.out.vl (labs_len E N N 0) (fun v hv => by
    rw [if_pos rfl, labs_at hv, if_neg (by omega), HEL.out v hv]))
  have HW := Lib.hid (show IsI w5 (.slice (some ⟨g5, 0, none⟩) N N) (ansF 3 sF) from by
    refine ⟨?_, HA.out.2⟩
    have h1 := Sl.of_own ho5
    rw [← HEQ.out] at h1
    have h2 : (ansF 3 sF).length = N := by rw [ansF_len, HGD.out.vl]
    rw [h2]; exact h1)
  have HSI := Lib.hid (sameInts_true q3 (some ⟨g5, 0, none⟩) d3 N N N _ w5 HA.out HW.out)
  have HBX5 := Lib.hid (HBX4.out.next hb5)
  have HT5 := Lib.hid (HT4.out.next hb5)
  obtain ⟨hx0, hx1, _, _⟩ := HBX5.out.two
  have ht0 := HT5.out.six.1
  clear ho5 hb5 HWK
  have hmb : N * (2 * N + 4) ≤ 10 * 24 := Nat.mul_le_mul hN10 (by omega)
  have hm2 : (N : Int) * (2 * (N : Int) + 4) = ((N * (2 * N + 4) : Nat) : Int) := by simp
  have hm3 : N * (2 * N + 4) = N * (2 * N + 3) + N := by rw [show 2 * N + 4 = (2 * N + 3) + 1 by omega, Nat.mul_succ]
  have hwr : IntKind.i64.wrap ((N : Int) * (2 * (N : Int) + 4)) = (N : Int) * (2 * (N : Int) + 4) := IntWalk.i64_in _ (by rw [hm2]; omega)
  have hle : decide ((K : Int) ≤ (N : Int) * (2 * (N : Int) + 4)) = true := by rw [hm2]; simp only [decide_eq_true_eq]; omega
  clear hmb hm2 hm3
  have hnn : ((N : Int) == (N : Int)) = true := by simp
  go_wp2_with fail
  refine HSI.out.mono ?_; rintro e w6 ⟨rfl, hb6⟩
  have HB6 := Lib.hid (HB5.out.trans (hb6.mono HB5.out.size))
  obtain ⟨hx0, hx1, _, _⟩ := (HBX5.out.next hb6).two
  have ht0 := (HT5.out.next hb6).six.1
  clear hb6
  go_wp2_with fail
  go_ret
  exact ⟨rfl, HB6.out⟩
end Go.Proofs.Ytiaflhlfodcbjaa
