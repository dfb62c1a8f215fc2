/- The walk of the law StrongMutual. -/
import Derived.Test.YtnkkhfggfhbibaaStrong
import Derived.Deep.QuietTactic
import Derived.BigQuiet
namespace Go.Proofs.Ytnkkhfggfhbibaa
open Go.RowKit
theorem labs_fin {E : List Eg} {N u : Nat} (hu : u < N) : (labs E N N 0)[u]? = some (lbl E N u) := by rw [labs_at hu, if_neg (by omega)]
set_option maxHeartbeats 16000000 in
set_option maxRecDepth 100000 in
theorem strongMutual_walk (w : World) (a0 : Int) (ha0 : -9223372036854775808 ≤ a0) (ha1 : a0 ≤ 9223372036854775807) (v1 : Value) (l1 : List (List Int)) (h1 : IsR 3 w v1 l1) (a2 : Int) (ha2 : -9223372036854775808 ≤ a2) (ha3 : a2 ≤ 9223372036854775807) (a3 : Int) (ha4 : -9223372036854775808 ≤ a3) (ha5 : a3 ≤ 9223372036854775807) :
    Calls Try.prog 11 #[.int .i64 a0, v1, .int .i64 a2, .int .i64 a3] w fun e w' => e = .returned (.bool true) ∧ Below w.heap.size w w' := by
  obtain ⟨p1, c1, rfl⟩ := h1.val
  have HM := Lib.hid (made_ok a0 p1 c1 _ l1 8 w ha0 ha1 h1 (by omega) (by omega))
  have hpk := pickN_lt a0 (m := 8) (by decide)
  clear h1 ha0 ha1
  obtain ⟨N, hN⟩ : ∃ N, N = 1 + pickN a0 8 := ⟨_, rfl⟩
  rw [← hN] at HM
  have hN200 : N ≤ 200 := by omega
  have hN1 : 1 ≤ N := by omega
  have hG := Lib.hid (edgesL_in N l1 (by omega))
  have hn10 := edgesL_len N l1
  clear hN hpk
  generalize edgesL N l1 = E at *
  obtain ⟨n, hn⟩ : ∃ n, n = E.length := ⟨_, rfl⟩
  rw [← hn] at HM hn10
  have HN := Lib.hid hn
  clear hn
  have HPU := Lib.hid (fun W => picked_i a2 (N : Int) N W rfl ha2 ha3 hN1 (by omega))
  have HPV := Lib.hid (fun W => picked_i a3 (N : Int) N W rfl ha4 ha5 hN1 (by omega))
  have hU := pickN_lt a2 hN1
  have hV := pickN_lt a3 hN1
  generalize pickN a2 N = u at *
  generalize pickN a3 N = v at *
  clear ha2 ha3 ha4 ha5
  go_enter Try.func11, Try.ntmps11
  go_wp2_with fail
  refine HM.out.mono ?_; rintro e w1 ⟨q1, d1, rfl, ho1, hb1⟩
  have HS1 := Lib.hid (Sl.of_own ho1)
  have hz1 := hb1.size
  clear ho1
  go_wp2_with fail
  refine (strong_ok N n d1 q1 E _ (HS1.out.later (alloc_below w1 _)) hG.out hN200 (by omega)).mono ?_; rintro e w2 ⟨g, rfl, ho2, hb2⟩
  obtain ⟨b12, X9, hz2⟩ := boxed (cs := [.int .i64 (N : Int), .slice q1 n d1]) hb2
  have HX9 := Lib.hid X9
  have HWO := Lib.hid ho2
  have HS2 := Lib.hid (HS1.out.later b12)
  have hbw := hb1.trans (b12.mono hz1)
  obtain ⟨hy0, hy1, _, _⟩ := X9.two
  clear ho2 X9 hb1 b12 hb2
  go_wp2_with (first | (go_at_call_of 14 (Value.int .i64 a2); refine (HPU.out _).mono ?_; rintro e w' ⟨rfl, rfl⟩) | (go_at_call_of 14 (Value.int .i64 a3); refine (HPV.out _).mono ?_; rintro e w' ⟨rfl, rfl⟩))
  clear hy0 hy1
  refine (reachP_ok N n d1 u q1 E w2 HS2.out hG.out hN200 (by omega) hU).mono ?_; rintro e w3 ⟨ga, rfl, ho3, hb3⟩
  obtain ⟨hy0, hy1, _, _⟩ := (HX9.out.next hb3).two
  have HA := Lib.hid ho3
  clear ho3
  go_wp2_with fail
  clear hy0 hy1
  refine (reachP_ok N n d1 v q1 E w3 (HS2.out.later hb3) hG.out hN200 (by omega) hV).mono ?_; rintro e w4 ⟨gb, rfl, ho4, hb4⟩
  have hb24 := hb3.trans (hb4.mono hb3.size)
  obtain ⟨hy0, hy1, _, _⟩ := (HX9.out.next hb24).two
  have how := own_later HWO.out hb24
  have HAV := Lib.hid (reach_cell (own_later HA.out hb4) hV)
  have HBU := Lib.hid (reach_cell ho4 hU)
  clear ho4
  have hbf := hbw.trans (hb24.mono hbw.size)
  have hsm := Lib.hid (lbl_same (E := E) hU hV)
  obtain ⟨U, hu1, hu2, hu3⟩ := lbl_own (E := E) hU
  obtain ⟨V, hv1, hv2, _⟩ := lbl_own (E := E) hV
  have hcu := how.cellAt u (by omega)
  rw [its_at (labs_fin hU), hu1] at hcu
  have hcv := how.cellAt v (by omega)
  rw [its_at (labs_fin hV), hv1] at hcv
  have hcU := how.cellAt U (by omega)
  rw [its_at (labs_fin (by omega)), hu3] at hcU
  rw [hu1, hv1] at hsm
  clear how hu1 hv1 hu3
  have he1 : ((N : Int) != (N : Int)) = false := by simp
  have hu0 : (0 : Int) ≤ (u : Int) := by omega
  have huN : (u : Int) < (N : Int) := by omega
  have hv0 : (0 : Int) ≤ (v : Int) := by omega
  have hvN : (v : Int) < (N : Int) := by omega
  have hU0 : (0 : Int) ≤ (U : Int) := by omega
  have hUN : (U : Int) < (N : Int) := by omega
  have hd1 : decide ((0 : Int) ≤ (U : Int)) = true := by simp
  have hd2 : decide ((U : Int) ≤ (u : Int)) = true := by simp; omega
  have hd3 : decide (U ≤ u) = true := by simp; omega
  have hUU : ((U : Int) == (U : Int)) = true := by simp
  by_cases h1 : Rch E u v
  · have hca := HAV.out.1 h1
    by_cases h2 : Rch E v u
    · have hcb := HBU.out.1 h2
      obtain rfl : U = V := by have := hsm.out.2 ⟨h1, h2⟩; omega
      clear h1 h2
      go_wp2_with fail
      go_quiet (fail)
      go_wp2_with fail
      go_ret
      exact ⟨rfl, below_drewN hbf _⟩
    · have hcb := HBU.out.2 h2
      have hne : ((U : Int) == (V : Int)) = false := beq_eq_false_iff_ne.2 (fun e => h2 (hsm.out.1 e).2)
      clear h1 h2
      go_wp2_with fail
      go_quiet (fail)
      go_wp2_with fail
      go_ret
      exact ⟨rfl, below_drewN hbf _⟩
  · have hca := HAV.out.2 h1
    have hne : ((U : Int) == (V : Int)) = false := beq_eq_false_iff_ne.2 (fun e => h1 (hsm.out.1 e).1)
    clear h1
    go_wp2_with fail
    go_quiet (fail)
    go_wp2_with fail
    go_ret
    exact ⟨rfl, below_drewN hbf _⟩
end Go.Proofs.Ytnkkhfggfhbibaa
