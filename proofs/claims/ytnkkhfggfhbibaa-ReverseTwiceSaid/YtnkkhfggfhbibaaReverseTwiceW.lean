/- The walk of the law ReverseTwice. -/
import Derived.Test.YtnkkhfggfhbibaaGLaw
import Derived.Test.YtnkkhfggfhbibaaRevG
namespace Go.Proofs.Ytnkkhfggfhbibaa
open Go.RowKit
set_option maxHeartbeats 4000000 in
set_option maxRecDepth 100000 in
theorem reverseTwice_walk (w : World) (a0 : Int) (ha0 : -9223372036854775808 ≤ a0) (ha1 : a0 ≤ 9223372036854775807) (v1 : Value) (l1 : List (List Int)) (h1 : IsR 3 w v1 l1) :
    Calls Try.prog 7 #[.int .i64 a0, v1] w fun e w' => e = .returned (.bool true) ∧ Below w.heap.size w w' := by
  obtain ⟨p1, c1, rfl⟩ := h1.val
  have HM := Lib.hid (made_ok a0 p1 c1 _ l1 8 w ha0 ha1 h1 (by omega) (by omega))
  have hpk := pickN_lt a0 (m := 8) (by decide)
  clear h1 ha0 ha1
  obtain ⟨N, hN⟩ : ∃ N, N = 1 + pickN a0 8 := ⟨_, rfl⟩
  rw [← hN] at HM
  have hN200 : N ≤ 200 := by omega
  have hG := Lib.hid (edgesL_in N l1 (by omega))
  have hn10 := edgesL_len N l1
  clear hN hpk
  generalize edgesL N l1 = E at *
  obtain ⟨n, hn⟩ : ∃ n, n = E.length := ⟨_, rfl⟩
  rw [← hn] at HM hn10
  have HN := Lib.hid hn
  clear hn
  have HRT := Lib.hid (rev_twice E)
  go_enter Try.func7, Try.ntmps7
  go_wp2_with fail
  refine HM.out.mono ?_; rintro e w1 ⟨q1, d1, rfl, ho1, hb1⟩
  have HS1 := Lib.hid (Sl.of_own ho1)
  have hz1 := hb1.size
  clear ho1
  go_wp2_with fail
  refine (reverseG_ok N n d1 q1 E _ (HS1.out.later (alloc_below w1 _)) hG.out hN200 (by omega)).mono ?_; rintro e w2 ⟨q2, d2, rfl, ho2, hb2⟩
  obtain ⟨b12, X5, hz2⟩ := boxed (cs := [.int .i64 (N : Int), .slice q1 n d1]) hb2
  have HS2 := Lib.hid (Sl.of_own ho2)
  have HX5 := Lib.hid X5
  clear ho2 hb2 X5
  go_wp2_with fail
  refine (reverseG_ok N n d2 q2 (srt cfE (revL E)) _ (HS2.out.later (alloc_below w2 _)) hG.out.rev.srt hN200 (by omega)).mono ?_; rintro e w3 ⟨q3, d3, rfl, ho3, hb3⟩
  obtain ⟨b23, X6, hz3⟩ := boxed (cs := [.int .i64 (N : Int), .slice q2 n d2]) hb3
  have HS3 := Lib.hid (Sl.of_own ho3)
  have X5 := HX5.out.next b23
  clear ho3 hb3 X6
  rw [HRT.out] at HS3
  obtain ⟨hy0, hy1, _, _⟩ := (X5.alloc (.cells #[.int .i64 (N : Int), .slice q3 n d3] 25)).two
  go_wp2_with fail
  clear hy0 hy1
  refine (sortedG_ok N n d1 q1 E _ (((HS1.out.later b12).later b23).later (alloc_below w3 _)) hG.out hN200 (by omega)).mono ?_; rintro e w4 ⟨q4, d4, rfl, ho4, hb4⟩
  obtain ⟨b34, X8, hz4⟩ := boxed (cs := [.int .i64 (N : Int), .slice q3 n d3]) hb4
  have HS4 := Lib.hid (Sl.of_own ho4)
  have Y5 := Lib.hid (X5.next b34)
  have Y8 := Lib.hid X8
  clear ho4 hb4 X5 X8
  obtain ⟨hy0, hy1, _, _⟩ := (Y8.out.alloc (.cells #[.int .i64 (N : Int), .slice q4 n d4] 25)).two
  go_wp2_with fail
  clear hy0 hy1
  refine (sameGraph_ok N n d3 n d4 q3 q4 (srt cfE E) _ ((HS3.out.later b34).later (alloc_below w4 _)) (HS4.out.later (alloc_below w4 _))).mono ?_; rintro e w5 ⟨rfl, hb5⟩
  obtain ⟨b45, X10, hz5⟩ := boxed (cs := [.int .i64 (N : Int), .slice q4 n d4]) hb5
  obtain ⟨hy0, _, _, _⟩ := (Y8.out.next b45).two
  obtain ⟨hx0, _, _, _⟩ := (Y5.out.next b45).two
  clear hb5 X10
  go_wp2_with fail
  go_ret
  exact ⟨by simp, (((hb1.trans (b12.mono hz1)).trans (b23.mono (by omega))).trans (b34.mono (by omega))).trans (b45.mono (by omega))⟩
end Go.Proofs.Ytnkkhfggfhbibaa
