/- The walk of the law DegreesAdd. -/
import Derived.Test.YtnkkhfggfhbibaaGLaw
import Derived.Test.YtnkkhfggfhbibaaRevG
import Derived.Test.YtnkkhfggfhbibaaDeg
import Derived.Test.YtnkkhfggfhbibaaHops
namespace Go.Proofs.Ytnkkhfggfhbibaa
open Go.RowKit
theorem own_formN {w : World} {base : Nat} {e : TypeId} {size n : Nat} {v : Value} {xs : List Value} (h : w.ownsRow base e size v n xs) (hn : 0 < n) : ∃ g c, v = .slice (some ⟨g, 0, none⟩) n c ∧ n ≤ c ∧ c ≤ 9223372036854775807 := by
  rcases h.2 with ⟨_, h2⟩ | ⟨g, cap, cur, h1, _, _, h3, h4, _⟩
  · omega
  · exact ⟨g, cap, h1, h3, by unfold maxLen at h4; omega⟩
set_option maxHeartbeats 4000000 in
set_option maxRecDepth 100000 in
theorem degreesAdd_walk (w : World) (a0 : Int) (ha0 : -9223372036854775808 ≤ a0) (ha1 : a0 ≤ 9223372036854775807) (v1 : Value) (l1 : List (List Int)) (h1 : IsR 3 w v1 l1) :
    Calls Try.prog 10 #[.int .i64 a0, v1] w fun e w' => e = .returned (.bool true) ∧ Below w.heap.size w w' := by
  obtain ⟨p1, c1, rfl⟩ := h1.val
  have HM := Lib.hid (made_ok a0 p1 c1 _ l1 8 w ha0 ha1 h1 (by omega) (by omega))
  have hpk := pickN_lt a0 (m := 8) (by decide)
  clear h1 ha0 ha1
  obtain ⟨N, hN⟩ : ∃ N, N = 1 + pickN a0 8 := ⟨_, rfl⟩
  rw [← hN] at HM
  have hN200 : N ≤ 200 := by omega
  have hN0 : 0 < N := by omega
  have hG := Lib.hid (edgesL_in N l1 (by omega))
  have hn10 := edgesL_len N l1
  clear hN hpk
  generalize edgesL N l1 = E at *
  obtain ⟨n, hn⟩ : ∃ n, n = E.length := ⟨_, rfl⟩
  rw [← hn] at HM hn10
  have HN := Lib.hid hn
  clear hn
  go_enter Try.func10, Try.ntmps10
  go_wp2_with fail
  refine HM.out.mono ?_; rintro e w1 ⟨q1, d1, rfl, ho1, hb1⟩
  have HS1 := Lib.hid (Sl.of_own ho1)
  have hz1 := hb1.size
  clear ho1
  go_wp2_with fail
  refine (reverseG_ok N n d1 q1 E _ (HS1.out.later (alloc_below w1 _)) hG.out hN200 (by omega)).mono ?_; rintro e w2 ⟨q2, d2, rfl, ho2, hb2⟩
  obtain ⟨b12, X5, hz2⟩ := boxed (cs := [.int .i64 (N : Int), .slice q1 n d1]) hb2
  have HS2 := Lib.hid (Sl.of_own ho2)
  have HX5 := Lib.hid X5
  clear ho2 hb2 X5
  obtain ⟨hy0, hy1, _, _⟩ := (HX5.out.alloc (.cells #[.int .i64 (N : Int), .slice q2 n d2] 25)).two
  go_wp2_with fail
  clear hy0 hy1
  refine (degreesG_ok N n d1 q1 E _ ((HS1.out.later b12).later (alloc_below w2 _)) hG.out hN200 (by omega)).mono ?_; rintro e w3 ⟨q3, d3, rfl, ho3, hb3⟩
  obtain ⟨b23, X6, hz3⟩ := boxed (cs := [.int .i64 (N : Int), .slice q2 n d2]) hb3
  have X5 := HX5.out.next b23
  have HX5' := Lib.hid X5
  obtain ⟨hy0, hy1, _, _⟩ := X6.two
  obtain ⟨g3, c3, he3, hc3, hc63⟩ := own_formN ho3 hN0
  cases he3
  have HS3 := Lib.hid (Sl.of_own ho3)
  clear ho3 hb3 X5
  go_wp2_with fail
  clear hy0 hy1
  refine (degreesG_ok N n d2 q2 (srt cfE (revL E)) _ (HS2.out.later b23) hG.out.rev.srt hN200 (by omega)).mono ?_; rintro e w4 ⟨q4, d4, rfl, ho4, hb4⟩
  obtain ⟨g4, c4, he4, hc4, hc643⟩ := own_formN ho4 hN0
  cases he4
  have X5 := HX5'.out.next hb4
  have HY5 := Lib.hid X5
  have HS3' := Lib.hid (HS3.out.later hb4)
  have HS4 := Lib.hid (Sl.of_own ho4)
  have HS1' := Lib.hid (((HS1.out.later b12).later b23).later hb4)
  have hz4 := hb4.size
  have hbw := (((hb1.trans (b12.mono hz1)).trans (b23.mono (by omega))).trans (hb4.mono (by omega)))
  obtain ⟨hy0, hy1, _, _⟩ := X5.two
  clear ho4 X6 X5 b12 b23 hb4 hb1
  have he1 : ((N : Int) != (N : Int)) = false := by simp
  go_wp2_with fail
  clear hy0 hy1 he1
  go_loopg [12, 13, 14, 15, 16] N (fun gk v12 v13 v14 v15 v16 wr => ∃ k : Nat, v14 = .int .i64 (k : Int) ∧ k + gk = N ∧ v12 = .int .i64 ((fromBelow E k : Nat) : Int) ∧ v13 = .int .i64 ((fromBelow (srt cfE (revL E)) k : Nat) : Int) ∧ Below w4.heap.size w4 wr)
  case atStart => exact ⟨0, rfl, by omega, by rw [fromBelow_zero]; rfl, by rw [fromBelow_zero]; rfl, Below.refl _ _⟩
  case round =>
    obtain ⟨k, rfl, hgk, rfl, rfl, hb⟩ := hrel
    have HGK := Lib.hid hgk
    have hk : k ≤ N := by omega
    clear hgk
    have hsz := hb.size
    obtain ⟨hy0, hy1, _, _⟩ := (HY5.out.next hb).two
    have hf1 : fromBelow E k ≤ 600 := by
      have := List.countP_le_length (l := E) (p := fun e => decide (e.1 < k)); have := HN.out; unfold fromBelow; omega
    have hf2 : fromBelow (srt cfE (revL E)) k ≤ 600 := by
      have := List.countP_le_length (l := srt cfE (revL E)) (p := fun e => decide (e.1 < k)); have h2 := HN.out
      rw [srt_len] at this
      unfold revL at this
      rw [List.length_map] at this
      unfold fromBelow; unfold revL; omega
    by_cases hlt : k < N
    · have hs1 := Lib.hid (fromBelow_succ E k)
      have hs2 := Lib.hid (fromBelow_succ (srt cfE (revL E)) k)
      have hd1 : degL E k ≤ 600 := by
        have := List.countP_le_length (l := E) (p := fun e => e.1 == k); have := HN.out; unfold degL; omega
      have hd2 : degL (srt cfE (revL E)) k ≤ 600 := by
        have := List.countP_le_length (l := srt cfE (revL E)) (p := fun e => e.1 == k); have h2 := HN.out
        rw [srt_len] at this
        unfold revL at this
        rw [List.length_map] at this
        unfold degL; unfold revL; omega
      have hhl := Lib.hid (show (hopsL (srt cfE E) k).length = degL E k by rw [hopsL_len, degL_srt])
      have hat1 : (nts (degsL N E))[k]? = some (.int .i64 ((degL E k : Nat) : Int)) := by unfold nts; rw [List.getElem?_map, degsL_at E hlt]; rfl
      have hat2 : (nts (degsL N (srt cfE (revL E))))[k]? = some (.int .i64 ((degL (srt cfE (revL E)) k : Nat) : Int)) := by unfold nts; rw [List.getElem?_map, degsL_at _ hlt]; rfl
      have HC1 := Lib.hid (fun W (h : Below w4.heap.size w4 W) => (HS3'.out.later h).get hat1)
      have HC2 := Lib.hid (fun W (h : Below w4.heap.size w4 W) => (HS4.out.later h).get hat2)
      generalize fromBelow E k = f1 at *
      generalize fromBelow (srt cfE (revL E)) k = f2 at *
      generalize degL E k = g1 at *
      generalize degL (srt cfE (revL E)) k = g2 at *
      have hk0 : (0 : Int) ≤ (k : Int) := by omega
      have hkn : (k : Int) < (N : Int) := by omega
      have hd1' : decide ((k : Int) < (N : Int)) = true := by simp; omega
      have hd2' : decide (k < N) = true := by simp; omega
      clear hat1 hat2
      go_wp2_with fail
      refine (hopsG_ok N n d1 k q1 E wr (HS1'.out.later hb) hG.out hN200 (by omega) hlt).mono ?_; rintro e w5 ⟨q5, d5, rfl, ho5, hb5⟩
      have hb6 := hb.trans (hb5.mono hsz)
      obtain ⟨b, off, he, hcA⟩ := HC1.out w5 hb6
      cases he
      obtain ⟨b, off, he, hcB⟩ := HC2.out w5 hb6
      cases he
      rw [Nat.zero_add] at hcA hcB
      rw [hhl.out]
      clear ho5 hy0 hy1
      have hneq : ((g1 : Int) != (g1 : Int)) = false := by simp
      go_wp2_with fail
      go_roundg (N - (k + 1))
      case measure => have := HGK.out; omega
      case rel => exact ⟨k + 1, by go_num, by omega, by rw [hs1.out]; go_num, by rw [hs2.out]; go_num, hb6⟩
    · obtain rfl : k = N := by omega
      have hd1' : decide ((k : Int) < (k : Int)) = false := by simp
      have e1 := fromBelow_all hG.out
      have e2 := fromBelow_all hG.out.rev.srt
      rw [srt_len] at e2
      unfold revL at e2
      rw [List.length_map, ← HN.out] at e2
      rw [← HN.out] at e1
      have E1 := Lib.hid e1
      have E2 := Lib.hid e2
      clear e1 e2
      unfold revL
      rw [E1.out, E2.out]
      have heq : ((n : Int) == (n : Int)) = true := by simp
      go_wp2_with fail
      go_ret
      exact ⟨rfl, hbw.trans (hb.mono (by omega))⟩
end Go.Proofs.Ytnkkhfggfhbibaa
