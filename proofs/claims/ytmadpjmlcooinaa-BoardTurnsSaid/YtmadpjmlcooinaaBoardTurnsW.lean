/- The walk of the law BoardTurns. -/
import Derived.Test.YtmadpjmlcooinaaReported
import Derived.Test.YtmadpjmlcooinaaBoardL
import Derived.IntWalk
namespace Go.Proofs.Ytmadpjmlcooinaa
open Go.RowKit
set_option maxHeartbeats 4000000 in
set_option maxRecDepth 100000 in
theorem boardTurns_walk (w : World) (a0 : Int) (h00 : -9223372036854775808 ≤ a0) (h01 : a0 ≤ 9223372036854775807) (v1 : Value) (L : List Tl) (h1 : IsTl w v1 L) (v2 : Value) (O : List Int) (h2 : IsI w v2 O) (v3 : Value) (O3 : List Int) (h3 : IsI w v3 O3) :
    Calls Try.prog 8 #[.int .i64 a0, v1, v2, v3] w fun e w' => e = .returned (.bool true) ∧ Below w.heap.size w w' := by
  have hlv := h1.val
  obtain ⟨pl, cl, rfl, hlc1, hlc2⟩ := hlv
  obtain ⟨po, co, rfl⟩ : ∃ p c, v2 = .slice p O.length c := by obtain ⟨p, c, hp, _⟩ := h2.1; exact ⟨p, c, hp⟩
  obtain ⟨pq, cq, rfl⟩ : ∃ p c, v3 = .slice p O3.length c := by obtain ⟨p, c, hp, _⟩ := h3.1; exact ⟨p, c, hp⟩
  obtain ⟨W, hW⟩ : ∃ W, W = 1 + pickN a0 5 := ⟨_, rfl⟩
  have hW5 := pickN_lt a0 (m := 5) (by omega)
  have P0 := Lib.hid (fun w' => picked_i a0 5 5 w' rfl h00 h01 (by omega) (by omega))
  have H1 := Lib.hid h1
  have H2 := Lib.hid h2
  have H3 := Lib.hid h3
  have HR := Lib.hid (fun w' (hb : Below w.heap.size w w') => reported_ok W cl co W (-1) pl po L O w' (H1.out.later hb) (H2.out.later hb) (by omega) (by omega) (by omega) (by omega))
  have HR3 := Lib.hid (fun w' (hb : Below w.heap.size w w') => reported_ok W cl cq W (-1) pl pq L O3 w' (H1.out.later hb) (H3.out.later hb) (by omega) (by omega) (by omega) (by omega))
  go_enter Try.func8, Try.ntmps8
  have hwi : IntKind.i64.wrap (1 + ((pickN a0 5 : Nat) : Int)) = (W : Int) := by rw [hW]; push_cast; exact IntWalk.i64_in _ (by omega)
  have hWb1 : 1 ≤ W := by omega
  have hWb5 : W ≤ 5 := by omega
  obtain ⟨q0, hq0⟩ : ∃ q, q = pickN a0 5 := ⟨_, rfl⟩
  rw [← hq0] at P0 hwi hW hW5
  clear hW hq0 h1 h2 h3
  go_wp2_with fail
  refine (P0.out _).mono ?_; rintro e w' ⟨rfl, rfl⟩
  have hb0 : Below w.heap.size w w := Below.refl _ _
  go_wp2_with fail
  refine (HR.out _ hb0).mono ?_; rintro e w1 ⟨T1, p1, c1, hT1, rfl, hbd1, hb1⟩
  have hok1 := repsL_bd (L := L) (W := W) (out := W) (off := (-1)) (t := W) hT1
  rw [List.take_of_length_le (by rw [hT1.len]; exact Nat.le_refl _)] at hok1
  have HY1 := Lib.hid (fun w' (hb : Below w1.heap.size w1 w') => ready_any W c1 p1 (repsL L W W (-1) T1) (repF L W (-1)) w' (hbd1.later hb) hok1 repsL_F (by omega) (by omega) (repF_b L W (-1)))
  have HT1 := Lib.hid hT1
  have hc1 := Lib.hid (below_next hb0 (Nat.le_refl _) hb1)
  have hc1' := (hbd1.val)
  obtain ⟨_, _, _, hcc1, hcc2⟩ := hc1'
  rw [repsL_len hT1] at HY1 ⊢
  clear hbd1 hok1 hT1 hb1 hcc1 hcc2
  obtain ⟨ba, BA, za⟩ := boxed0 w1 [.int .i64 (W : Int), .int .i64 2, .int .i64 3, .slice p1 W c1] 56
  have hca := Lib.hid (below_next hc1.out (Nat.le_refl _) ba)
  go_wp2_with fail
  generalize (w1.alloc (.cells #[.int .i64 (W : Int), .int .i64 2, .int .i64 3, .slice p1 W c1] 56)) = wa at *
  refine (HR3.out _ hca.out).mono ?_; rintro e w2 ⟨T2, p2, c2, hT2, rfl, hbd2, hb2⟩
  have hok2 := repsL_bd (L := L) (W := W) (out := W) (off := (-1)) (t := W) hT2
  rw [List.take_of_length_le (by rw [hT2.len]; exact Nat.le_refl _)] at hok2
  have HY2 := Lib.hid (fun w' (hb : Below w2.heap.size w2 w') => ready_any W c2 p2 (repsL L W W (-1) T2) (repF L W (-1)) w' (hbd2.later hb) hok2 repsL_F (by omega) (by omega) (repF_b L W (-1)))
  have HT2 := Lib.hid hT2
  have hc2 := Lib.hid (below_next hca.out (Nat.le_refl _) hb2)
  rw [repsL_len hT2] at HY2 ⊢
  obtain ⟨bb, BB, zb⟩ := boxed0 w2 [.int .i64 (W : Int), .int .i64 2, .int .i64 3, .slice p2 W c2] 56
  have BA2 := (BA.next hb2).next bb
  have hcb := Lib.hid (below_next hc2.out (Nat.le_refl _) bb)
  have b12 := Lib.hid (((show Below w1.heap.size w1 wa from ba).trans (hb2.mono (by omega))).trans (bb.mono (by have := hb2.size; omega)))
  have hbb := Lib.hid bb
  clear hbd2 hok2 hT2 hb2
  obtain ⟨hx0, hx1, hx2, hx3, _, _, _, _⟩ := BA2.four
  obtain ⟨hy0, hy1, hy2, hy3, _, _, _, _⟩ := BB.four
  go_wp2_with fail
  generalize (w2.alloc (.cells #[.int .i64 (W : Int), .int .i64 2, .int .i64 3, .slice p2 W c2] 56)) = wb at *
  refine (HY1.out _ b12.out).mono ?_; rintro e z1 ⟨hr1, hd1⟩
  obtain rfl := ready_all HT1.out hr1
  obtain ⟨hy0, hy1, hy2, hy3, _, _, _, _⟩ := (BB.next hd1).four
  obtain ⟨hx0, hx1, hx2, hx3, _, _, _, _⟩ := (BA2.next hd1).four
  have BA3 := Lib.hid (BA2.next hd1)
  have BB3 := Lib.hid (BB.next hd1)
  have hce := Lib.hid (below_next hcb.out (Nat.le_refl _) hd1)
  have hbe := Lib.hid (hbb.out.trans (hd1.mono (by omega)))
  clear BA BA2 BB hr1 hd1 ba bb
  go_wp2_with fail
  refine (HY2.out _ hbe.out).mono ?_; rintro e z2 ⟨hr2, hd2⟩
  obtain rfl := ready_all HT2.out hr2
  have BA4 := Lib.hid (BA3.out.next hd2)
  have hcf := Lib.hid (below_next hce.out (Nat.le_refl _) hd2)
  clear hr2 hd2 hx0 hx1 hx2 hx3 hy0 hy1 hy2 hy3
  have hwl : ∀ i, waO L i ≤ 5 := fun i => Nat.le_of_lt (waO_lt L i)
  have hol : ∀ i, opO L i ≤ 5 := fun i => Nat.le_of_lt (opO_lt L i)
  have HWL := Lib.hid hwl
  have HOL := Lib.hid hol
  clear hwl hol
  go_wp2_with fail
  obtain ⟨wo, rfl⟩ : ∃ wo : World, wo = z2 := ⟨_, rfl⟩
  go_loopg [20, 21, 22] W (fun gk v20 v21 v22 wr => ∃ t : Nat, v22 = .int .i64 (t : Int) ∧ t + gk = W ∧ v20 = .int .i64 ((smN (waO L) t : Nat) : Int) ∧ v21 = .int .i64 ((smN (opO L) t : Nat) : Int) ∧ wo = wr)
  case atStart => exact ⟨0, rfl, by omega, rfl, rfl, rfl⟩
  case round =>
    obtain ⟨t, rfl, hgt, rfl, rfl, rfl⟩ := hrel
    have HGT := Lib.hid hgt
    have ht : t ≤ W := by omega
    clear hgt
    have hs1 : smN (waO L) t ≤ 25 := Nat.le_trans (smN_le (b := 5) HWL.out t) (by omega)
    have hs2 : smN (opO L) t ≤ 25 := Nat.le_trans (smN_le (b := 5) HOL.out t) (by omega)
    have HEND : (t = W ∨ L.length ≤ t) → Hid (smN (waO L) W = smN (waO L) t ∧ smN (opO L) W = smN (opO L) t) := fun h => by
      rcases h with rfl | h
      · exact Lib.hid ⟨rfl, rfl⟩
      · exact Lib.hid ⟨smN_tail (fun i hi => waO_far (Nat.le_trans h hi)) W ht, smN_tail (fun i hi => opO_far (Nat.le_trans h hi)) W ht⟩
    have HE := Lib.hid HEND
    clear HEND
    have hW0 : smN (waO L) W ≤ 25 := Nat.le_trans (smN_le (b := 5) HWL.out W) (by omega)
    have hO0 : smN (opO L) W ≤ 25 := Nat.le_trans (smN_le (b := 5) HOL.out W) (by omega)
    obtain ⟨hx0, hx1, hx2, hx3, _, _, _, _⟩ := BA4.out.four
    by_cases htW : t < W
    · have hd1 : decide ((t : Int) < (W : Int)) = true := by simp; omega
      have hd2 : decide (t < W) = true := by simp; omega
      by_cases htL : t < L.length
      · have hd3 : decide ((t : Int) < (L.length : Int)) = true := by simp; omega
        have hd4 : decide (t < L.length) = true := by simp; omega
        have ht0 : (0 : Int) ≤ (t : Int) := by omega
        have htL' : (t : Int) < (L.length : Int) := by omega
        obtain ⟨b, of, q, d, rfl, _, hw1, hw2, _, hr1, hr2⟩ := (H1.out.later hcf.out).get htL
        have e1 : waO L t = pickN (L[t].2.1) 5 := by unfold waO; rw [dif_pos htL]
        have e2 : opO L t = pickN (L[t].2.2) 5 := by unfold opO; rw [dif_pos htL]
        have HPK := Lib.hid (fun (y : Int) (hy : InI y) W' => picked_i y 5 5 W' rfl hy.1 hy.2 (by omega) (by omega))
        have f1 : smN (waO L) (t + 1) = smN (waO L) t + pickN (L[t].2.1) 5 := by rw [← e1]; rfl
        have f2 : smN (opO L) (t + 1) = smN (opO L) t + pickN (L[t].2.2) 5 := by rw [← e2]; rfl
        have g1 := pickN_lt (L[t].2.1) (m := 5) (by omega)
        have g2 := pickN_lt (L[t].2.2) (m := 5) (by omega)
        have HF := Lib.hid (And.intro f1 f2)
        have HR1 := Lib.hid hr1
        have HR2 := Lib.hid hr2
        have hwa1 : IntKind.i64.wrap (((smN (waO L) t : Nat) : Int) + ((pickN (L[t].2.1) 5 : Nat) : Int)) = ((smN (waO L) t : Nat) : Int) + ((pickN (L[t].2.1) 5 : Nat) : Int) := IntWalk.i64_in _ (by omega)
        have hwa2 : IntKind.i64.wrap (((smN (opO L) t : Nat) : Int) + ((pickN (L[t].2.2) 5 : Nat) : Int)) = ((smN (opO L) t : Nat) : Int) + ((pickN (L[t].2.2) 5 : Nat) : Int) := IntWalk.i64_in _ (by omega)
        clear e1 e2 f1 f2 hr1 hr2
        generalize L[t].2.1 = y1 at *
        generalize L[t].2.2 = y2 at *
        go_wp2_with (go_at_call 17; refine (HPK.out _ (by first | exact HR1.out | exact HR2.out) _).mono ?_; rintro e w' ⟨rfl, rfl⟩)
        go_roundg (W - (t + 1))
        case measure => have := HGT.out; omega
        case rel => exact ⟨t + 1, by go_num, by omega, by rw [HF.out.1]; push_cast; rfl, by rw [HF.out.2]; push_cast; rfl, rfl⟩
      · have hd3 : decide ((t : Int) < (L.length : Int)) = false := by simp; omega
        have hd4 : decide (t < L.length) = false := by simp; omega
        obtain ⟨hEa, hEb⟩ := (HE.out (.inr (by omega))).out
        rw [← hEa, ← hEb]
        clear hEa hEb
        generalize smN (waO L) W = sx at *
        generalize smN (opO L) W = sy at *
        go_wp2_with fail
        go_ret
        exact ⟨rfl, hcf.out⟩
    · obtain rfl : W = t := by omega
      have hd1 : decide ((W : Int) < (W : Int)) = false := by simp
      have hd2 : decide (W < W) = false := by simp
      generalize smN (waO L) W = sx at *
      generalize smN (opO L) W = sy at *
      go_wp2_with fail
      go_ret
      exact ⟨rfl, hcf.out⟩
end Go.Proofs.Ytmadpjmlcooinaa
