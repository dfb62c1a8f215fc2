/- The walk of the law QueueKeeps. -/
import Derived.Test.YtcaolnpkpialdaaDrain
import Derived.Test.YtcaolnpkpialdaaSameMailU
import Derived.IntWalk
namespace Go.Proofs.Ytcaolnpkpialdaa
open Go.RowKit Go.Sort Go.Proofs
theorem postsL_okK (raw : List (List Int)) (m : Nat) : ∀ x ∈ postsL raw m, okM x := fun x hx => by
  unfold postsL at hx
  obtain ⟨r, -, rfl⟩ := List.mem_map.1 hx
  unfold mailOf okM
  have h1 := pickN_lt (r.getD 0 0) (m := 6) (by omega)
  have h2 := pickN_lt (r.getD 1 0) (m := 1000) (by omega)
  constructor
  · show pickN _ _ < 200; omega
  · show pickN _ _ ≤ _; omega
set_option linter.unusedVariables false in
set_option maxHeartbeats 8000000 in
set_option maxRecDepth 100000 in
theorem queueKeeps_walk (w : World) (x : Int) (hx0 : -9223372036854775808 ≤ x) (hx1 : x ≤ 9223372036854775807) (v1 : Value) (l1 : List (List Int)) (h1 : IsR 2 w v1 l1) :
    Calls Try.prog 13 #[.int .i64 x, v1] w fun e w' => e = .returned (.bool true) ∧ Below w.heap.size w w' := by
  obtain ⟨p1, c1, rfl⟩ := h1.val
  have HPX := Lib.hid (fun w' => picked_i x 6 6 w' rfl hx0 hx1 (by omega) (by omega))
  have HP := Lib.hid (posts_any p1 c1 _ l1 40 w h1 (by omega))
  have hxa := pickN_lt x (m := 6) (by omega)
  have hpl : (postsL l1 40).length ≤ 40 := by unfold postsL; rw [List.length_map]; exact List.length_take_le _ _
  have hpo := postsL_okK l1 40
  generalize pickN x 6 = kd at *
  generalize postsL l1 40 = l at *
  obtain ⟨n, hn⟩ : ∃ n, n = l.length := ⟨_, rfl⟩
  have HN := Lib.hid hn
  rw [← hn] at HP hpl
  have HF := Lib.hid (fun (W : World) (p : Option Addr) (c : Nat) (h : Sl W 2 (.slice p n c) n (mcs l)) => (show Calls Try.prog 34 #[.int .i64 (1 + (kd : Int)), .slice p n c] W fun e w' => ∃ (v : Value) (mo : Nat), e = .returned (.tuple #[v, .int .i64 (mo : Int), .bool true]) ∧ mo < 1 + kd ∧ IsQ w' v (fillQ (1 + kd) l) ∧ Below W.heap.size W w' from by
    have := filled_ok (1 + kd) n c p l W h (by omega) (by omega) hpo (by omega)
    rw [show ((1 + kd : Nat) : Int) = 1 + (kd : Int) by omega] at this
    exact this))
  obtain ⟨f1, f2, f3, -, f5⟩ := fillQ_ok (bud := 1 + kd) (by omega) (by omega) l hpo (by omega)
  have f6 : (fillQ (1 + kd) l).runs.length ≤ 4000 := by rw [f5]; have := Nat.div_le_self l.length (1 + kd); omega
  have f7 := fillQ_srt (1 + kd) l
  rw [← hn] at f2
  generalize fillQ (1 + kd) l = q at *
  have HDR := Lib.hid (fun (W : World) (v : Value) (h : IsQ W v q) => (show Calls Try.prog 35 #[v] W fun e w' => ∃ p' c', e = .returned (.tuple #[.slice p' n c', .int .i64 0]) ∧ Sl w' 2 (.slice p' n c') n (mcs (srt cfM l)) ∧ Below W.heap.size W w' from by
    have := drain_ok v q W h f1 f6
    rw [f2, f7] at this
    refine this.mono ?_
    rintro e w' ⟨p', c', rfl, ho, hb⟩
    exact ⟨p', c', rfl, Sl.of_own ho, hb⟩))
  have HCO := Lib.hid (fun (W : World) (v : Value) (h : IsQ W v q) => (show Calls Try.prog 36 #[v] W fun e w' => e = .returned (.tuple #[.int .i64 (n : Int), .int .i64 0]) ∧ Below W.heap.size W w' from by
    have := count_ok v q W h f1
    rw [f2] at this
    exact this))
  have HB := Lib.hid f3
  clear h1 hx0 hx1 hpo f1 f2 f3 f5 f6 f7 hn
  go_enter Try.func13, Try.ntmps13
  go_wp2_with fail
  refine (HPX.out _).mono ?_; rintro e wn ⟨rfl, rfl⟩
  go_wp2_with fail
  refine HP.out.mono ?_; rintro e w1 ⟨q1, d1, rfl, ho1, hb1⟩
  have HS1 := Lib.hid (Sl.of_own ho1)
  have HB1 := Lib.hid hb1
  clear ho1 hb1
  go_wp2_with fail
  refine (HF.out _ _ _ HS1.out).mono ?_; rintro e w2 ⟨v2, mo, rfl, hmo, hq2, hb2⟩
  have hq2' := hq2
  obtain ⟨p3, c3, p4, c4, rfl, -, -⟩ := hq2'
  have HQ2 := Lib.hid hq2
  rw [HB.out] at HQ2 ⊢
  have hnn : ((1 + kd : Nat) : Int) = 1 + (kd : Int) := by omega
  rw [hnn] at HQ2 ⊢
  generalize q.runs.length = nr at *
  generalize q.loose.length = nl at *
  have HBW := Lib.hid (HB1.out.trans (hb2.mono HB1.out.size))
  have HS2 := Lib.hid (HS1.out.later hb2)
  obtain ⟨b3, B3, z3⟩ := boxed0 w2 [.int .i64 (1 + (kd : Int)), .slice p3 nl c3, .slice p4 nr c4] 86
  go_upto_region 4 with fail
  obtain ⟨g, hg⟩ : ∃ g, g = w2.heap.size := ⟨_, rfl⟩
  have HQ3 := Lib.hid (HQ2.out.later b3)
  have HS3 := Lib.hid (HS2.out.later b3)
  have HW3 := Lib.hid (HBW.out.trans (b3.mono HBW.out.size))
  rw [← hg] at B3 ⊢
  generalize (w2.alloc (.cells #[.int .i64 (1 + (kd : Int)), .slice p3 nl c3, .slice p4 nr c4] 86)) = w3 at *
  have HX3 := Lib.hid B3
  obtain ⟨hy0, hy1, hy2, _, _, _⟩ := B3.three
  clear b3 B3 z3 hg hq2 hb2 hnn
  go_wp2_with fail
  refine (HDR.out _ _ HQ3.out).mono ?_; rintro e w4 ⟨p5, c5, rfl, hs4, hb4⟩
  have HS4 := Lib.hid hs4
  have HX4 := Lib.hid (HX3.out.next hb4)
  have HQ4 := Lib.hid (HQ3.out.later hb4)
  have HP4 := Lib.hid (HS3.out.later hb4)
  have HW4 := Lib.hid (HW3.out.trans (hb4.mono HW3.out.size))
  clear hs4 hb4 hy0 hy1 hy2
  obtain ⟨hy0, hy1, hy2, _, _, _⟩ := HX4.out.three
  go_wp2_with fail
  refine (HCO.out _ _ HQ4.out).mono ?_; rintro e w5 ⟨rfl, hb5⟩
  have HS5 := Lib.hid (HS4.out.later hb5)
  have HX5 := Lib.hid (HX4.out.next hb5)
  have HP5 := Lib.hid (HP4.out.later hb5)
  have HW5 := Lib.hid (HW4.out.trans (hb5.mono HW4.out.size))
  clear hb5 hy0 hy1 hy2
  go_wp2_with fail
  refine (sorted_ok _ _ _ _ _ HP5.out (by omega)).mono ?_; rintro e w6 ⟨p6, c6, rfl, ho6, hb6⟩
  have HS6 := Lib.hid (HS5.out.later hb6)
  have HX6 := Lib.hid (HX5.out.next hb6)
  have HP6 := Lib.hid (Sl.of_own ho6)
  have HW6 := Lib.hid (HW5.out.trans (hb6.mono HW5.out.size))
  clear hb6 ho6
  have hmo' : (mo : Int) < 1 + (kd : Int) := by omega
  have hd3 : decide ((mo : Int) < 1 + (kd : Int)) = true := by simp; omega
  by_cases h0 : 0 < n
  · have hd1 : decide ((0 : Int) < (n : Int)) = true := by simp; omega
    have hd2 : decide (0 < n) = true := by simp; omega
    go_wp2_with (go_at_call 21; refine (sameMail_any _ _ _ _ _ _ _ _ _ HS6.out HP6.out rfl).mono ?_; rintro e w7 ⟨rfl, hb7⟩; have HX7 := HX6.out.next hb7; obtain ⟨hy0, hy1, hy2, _, _, _⟩ := HX7.three)
    go_ret
    exact ⟨rfl, HW6.out.trans (hb7.mono HW6.out.size)⟩
  · obtain rfl : n = 0 := by omega
    go_wp2_with (go_at_call 21; refine (sameMail_any _ _ _ _ _ _ _ _ _ HS6.out HP6.out rfl).mono ?_; rintro e w7 ⟨rfl, hb7⟩; have HX7 := HX6.out.next hb7; obtain ⟨hy0, hy1, hy2, _, _, _⟩ := HX7.three)
    go_ret
    exact ⟨rfl, HW6.out.trans (hb7.mono HW6.out.size)⟩
end Go.Proofs.Ytcaolnpkpialdaa
