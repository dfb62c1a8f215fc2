/- The walk of the law BoardAll. -/
import Derived.Test.YtmadpjmlcooinaaReported
import Derived.Test.YtmadpjmlcooinaaBoardL
import Derived.IntWalk
namespace Go.Proofs.Ytmadpjmlcooinaa
open Go.RowKit
set_option maxHeartbeats 4000000 in
set_option maxRecDepth 100000 in
theorem boardAll_walk (w : World) (a0 : Int) (h00 : -9223372036854775808 ≤ a0) (h01 : a0 ≤ 9223372036854775807) (v1 : Value) (L : List Tl) (h1 : IsTl w v1 L) (v2 : Value) (O : List Int) (h2 : IsI w v2 O) (a3 : Int) (h30 : -9223372036854775808 ≤ a3) (h31 : a3 ≤ 9223372036854775807) (a4 : Int) (h40 : -9223372036854775808 ≤ a4) (h41 : a4 ≤ 9223372036854775807) :
    Calls Try.prog 7 #[.int .i64 a0, v1, v2, .int .i64 a3, .int .i64 a4] w fun e w' => e = .returned (.bool true) ∧ Below w.heap.size w w' := by
  obtain ⟨pl, cl, rfl, _⟩ := h1.val
  obtain ⟨po, co, rfl⟩ : ∃ p c, v2 = .slice p O.length c := by obtain ⟨p, c, hp, _⟩ := h2.1; exact ⟨p, c, hp⟩
  obtain ⟨W, hW⟩ : ∃ W, W = 1 + pickN a0 5 := ⟨_, rfl⟩
  have hW5 := pickN_lt a0 (m := 5) (by omega)
  obtain ⟨u, hu⟩ : ∃ u, u = pickN a3 W := ⟨_, rfl⟩
  have huW := pickN_lt a3 (m := W) (by omega)
  have hWW : 0 < W * W := Nat.mul_pos (by omega) (by omega)
  obtain ⟨o, ho⟩ : ∃ o, o = pickN a4 (W * W) := ⟨_, rfl⟩
  have hoW := pickN_lt a4 (m := W * W) hWW
  have hWq : W * W ≤ 25 := Nat.mul_le_mul (show W ≤ 5 by omega) (show W ≤ 5 by omega)
  obtain ⟨Q, hQ⟩ : ∃ Q, Q = W * W := ⟨_, rfl⟩
  have hmul : (W : Int) * (W : Int) = (Q : Int) := by rw [hQ]; push_cast; rfl
  rw [← hQ] at ho hoW hWq hWW
  have P0 := Lib.hid (fun w' => picked_i a0 5 5 w' rfl h00 h01 (by omega) (by omega))
  have P3 := Lib.hid (fun w' => picked_i a3 W W w' rfl h30 h31 (by omega) (by omega))
  have P4 := Lib.hid (fun w' => picked_i a4 Q Q w' rfl h40 h41 (by omega) (by omega))
  rw [← hu] at P3 huW
  rw [← ho] at P4 hoW
  have H1 := Lib.hid h1
  have H2 := Lib.hid h2
  have HR := Lib.hid (fun (out : Nat) (off : Int) (h2 : -1 ≤ off) (h3 : off ≤ 1000) w' (hb : Below w.heap.size w w') => reported_ok W cl co out off pl po L O w' (H1.out.later hb) (H2.out.later hb) (by omega) (by omega) h2 h3)
  go_enter Try.func7, Try.ntmps7
  have hwi : IntKind.i64.wrap (1 + ((pickN a0 5 : Nat) : Int)) = (W : Int) := by rw [hW]; push_cast; exact IntWalk.i64_in _ (by omega)
  have hWb1 : 1 ≤ W := by omega
  have hWb5 : W ≤ 5 := by omega
  obtain ⟨q0, hq0⟩ : ∃ q, q = pickN a0 5 := ⟨_, rfl⟩
  rw [← hq0] at P0 hwi hW hW5
  have HW := Lib.hid hW
  clear hW hu ho hq0 hQ h1 h2
  go_wp2_with fail
  refine (P0.out _).mono ?_; rintro e w' ⟨rfl, rfl⟩
  have hb0 : Below w.heap.size w w := Below.refl _ _
  go_wp2_with fail
  refine (HR.out W (-1) (by omega) (by omega) _ hb0).mono ?_; rintro e w1 ⟨T1, p1, c1, hT1, rfl, hbd1, hb1⟩
  have hok1 := repsL_bd (L := L) (W := W) (out := W) (off := (-1)) (t := W) hT1
  rw [List.take_of_length_le (by rw [hT1.len]; exact Nat.le_refl _)] at hok1
  have HY1 := Lib.hid (fun w' (hb : Below w1.heap.size w1 w') => ready_any W c1 p1 (repsL L W W (-1) T1) (repF L W (-1)) w' (hbd1.later hb) hok1 repsL_F (by omega) (by omega) (repF_b L W (-1)))
  have HT1 := Lib.hid hT1
  have hc1 := Lib.hid (below_next hb0 (Nat.le_refl _) hb1)
  clear hbd1 hok1 hT1 hb1
  generalize (repsL L W W (-1) T1).length = n1 at *
  go_wp2_with fail
  refine (HY1.out _ (alloc_below _ _)).mono ?_; rintro e z1 ⟨hr1, hd1⟩
  obtain rfl := ready_all HT1.out hr1
  have hf1 := below_next (below_next hc1.out (Nat.le_refl _) (alloc_below _ _)) (Nat.le_refl _) hd1
  clear hr1 hd1
  go_wp2_with fail
  refine (P3.out _).mono ?_; rintro e w' ⟨rfl, rfl⟩
  go_wp2_with fail
  refine (HR.out u (-1) (by omega) (by omega) _ hf1).mono ?_; rintro e w2 ⟨T2, p2, c2, hT2, rfl, hbd2, hb2⟩
  have hok2 := repsL_bd (L := L) (W := W) (out := u) (off := (-1)) (t := W) hT2
  rw [List.take_of_length_le (by rw [hT2.len]; exact Nat.le_refl _)] at hok2
  have HY2 := Lib.hid (fun w' (hb : Below w2.heap.size w2 w') => ready_any W c2 p2 (repsL L W u (-1) T2) (repF L W (-1)) w' (hbd2.later hb) hok2 repsL_F (by omega) (by omega) (repF_b L W (-1)))
  have HT2 := Lib.hid hT2
  have hc2 := Lib.hid (below_next hf1 (Nat.le_refl _) hb2)
  clear hbd2 hok2 hT2 hb2
  generalize (repsL L W u (-1) T2).length = n2 at *
  go_wp2_with fail
  refine (HY2.out _ (alloc_below _ _)).mono ?_; rintro e z2 ⟨hr2, hd2⟩
  obtain rfl := ready_miss huW hr2
  have hf2 := below_next (below_next hc2.out (Nat.le_refl _) (alloc_below _ _)) (Nat.le_refl _) hd2
  clear hr2 hd2
  go_wp2_with fail
  refine (P4.out _).mono ?_; rintro e w' ⟨rfl, rfl⟩
  go_wp2_with fail
  refine (HR.out W (o : Int) (by omega) (by omega) _ hf2).mono ?_; rintro e w3 ⟨T3, p3, c3, hT3, rfl, hbd3, hb3⟩
  have hok3 := repsL_bd (L := L) (W := W) (out := W) (off := (o : Int)) (t := W) hT3
  rw [List.take_of_length_le (by rw [hT3.len]; exact Nat.le_refl _)] at hok3
  have HY3 := Lib.hid (fun w' (hb : Below w3.heap.size w3 w') => ready_any W c3 p3 (repsL L W W (o : Int) T3) (repF L W (o : Int)) w' (hbd3.later hb) hok3 repsL_F (by omega) (by omega) (repF_b L W (o : Int)))
  have HT3 := Lib.hid hT3
  have hc3 := Lib.hid (below_next hf2 (Nat.le_refl _) hb3)
  clear hbd3 hok3 hT3 hb3
  generalize (repsL L W W (o : Int) T3).length = n3 at *
  go_wp2_with fail
  refine (HY3.out _ (alloc_below _ _)).mono ?_; rintro e z3 ⟨hr3, hd3⟩
  obtain rfl := ready_off (by omega) hr3
  have hf3 := below_next (below_next hc3.out (Nat.le_refl _) (alloc_below _ _)) (Nat.le_refl _) hd3
  clear hr3 hd3
  go_wp2_with fail
  go_ret
  exact ⟨rfl, hf3⟩
end Go.Proofs.Ytmadpjmlcooinaa
