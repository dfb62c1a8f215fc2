/- The walk of the law QueueRuns. -/
import Derived.Test.YtfecpifhfihikaaFilled
import Derived.IntWalk
namespace Go.Proofs.Ytfecpifhfihikaa
open Go.RowKit Go.Sort Go.Proofs
theorem postsL_ok (raw : List (List Int)) (m : Nat) : ∀ x ∈ postsL raw m, okM x := fun x hx => by
  unfold postsL at hx
  obtain ⟨r, -, rfl⟩ := List.mem_map.1 hx
  unfold mailOf okM
  have h1 := pickN_lt (r.getD 0 0) (m := 6) (by omega)
  have h2 := pickN_lt (r.getD 1 0) (m := 1000) (by omega)
  constructor
  · show pickN _ _ < 200; omega
  · show pickN _ _ ≤ _; omega
set_option linter.unusedVariables false in
set_option maxHeartbeats 8000000 in
set_option maxRecDepth 100000 in
theorem queueRuns_walk (w : World) (x : Int) (hx0 : -9223372036854775808 ≤ x) (hx1 : x ≤ 9223372036854775807) (v1 : Value) (l1 : List (List Int)) (h1 : IsR 2 w v1 l1) :
    Calls Try.prog 4 #[.int .i64 x, v1] w fun e w' => e = .returned (.bool true) ∧ Below w.heap.size w w' := by
  obtain ⟨p1, c1, rfl⟩ := h1.val
  have HPX := Lib.hid (fun w' => picked_i x 6 6 w' rfl hx0 hx1 (by omega) (by omega))
  have HP := Lib.hid (posts_any p1 c1 _ l1 40 w h1 (by omega))
  have hxa := pickN_lt x (m := 6) (by omega)
  have hpl : (postsL l1 40).length ≤ 40 := by unfold postsL; rw [List.length_map]; exact List.length_take_le _ _
  have hpo := postsL_ok l1 40
  generalize pickN x 6 = kd at *
  generalize postsL l1 40 = l at *
  obtain ⟨n, hn⟩ : ∃ n, n = l.length := ⟨_, rfl⟩
  rw [← hn] at HP hpl
  have HF := Lib.hid (fun (W : World) (p : Option Addr) (c : Nat) (h : Sl W 2 (.slice p n c) n (mcs l)) => (show Calls Try.prog 10 #[.int .i64 (1 + (kd : Int)), .slice p n c] W fun e w' => ∃ (v : Value) (mo : Nat), e = .returned (.tuple #[v, .int .i64 (mo : Int), .bool true]) ∧ mo < 1 + kd ∧ IsQ w' v (fillQ (1 + kd) l) ∧ Below W.heap.size W w' from by
    have := filled_ok (1 + kd) n c p l W h (by omega) (by omega) hpo (by omega)
    rw [show ((1 + kd : Nat) : Int) = 1 + (kd : Int) by omega] at this
    exact this))
  obtain ⟨-, -, f3, f4, f5⟩ := fillQ_ok (bud := 1 + kd) (by omega) (by omega) l hpo (by omega)
  rw [← hn] at f4 f5
  generalize fillQ (1 + kd) l = q at *
  have hdv : (n : Int) / (1 + (kd : Int)) = (q.runs.length : Int) := by rw [f5]; push_cast; rfl
  have hmd : (n : Int) % (1 + (kd : Int)) = (q.loose.length : Int) := by rw [f4]; push_cast; rfl
  have HDV := Lib.hid hdv
  have HMD := Lib.hid hmd
  have HB := Lib.hid f3
  clear h1 hx0 hx1 hpo hdv hmd f3 f4 f5 hn
  go_enter Try.func4, Try.ntmps4
  go_wp2_with fail
  refine (HPX.out _).mono ?_; rintro e wn ⟨rfl, rfl⟩
  go_wp2_with fail
  refine HP.out.mono ?_; rintro e w1 ⟨q1, d1, rfl, ho1, hb1⟩
  go_wp2_with fail
  refine (HF.out _ _ _ (Sl.of_own ho1)).mono ?_; rintro e w2 ⟨v2, mo, rfl, hmo, hq2, hb2⟩
  obtain ⟨p3, c3, p4, c4, rfl, -, -⟩ := hq2
  rw [HB.out]
  have hbw := hb1.trans (hb2.mono hb1.size)
  have hnn : ((1 + kd : Nat) : Int) = 1 + (kd : Int) := by omega
  rw [hnn]
  have HDV2 := HDV
  have HMD2 := HMD
  generalize q.runs.length = nr at *
  generalize q.loose.length = nl at *
  obtain ⟨b3, B3, z3⟩ := boxed0 w2 [.int .i64 (1 + (kd : Int)), .slice p3 nl c3, .slice p4 nr c4] 37
  obtain ⟨hq0, hq1, hq2, _, _, _⟩ := B3.three
  have hdv := HDV.out
  have hmd := HMD.out
  have hkz : ¬ (1 + (kd : Int) = 0) := by omega
  have hkz2 : ((1 + (kd : Int)) == 0) = false := by simp; omega
  clear hnn HB
  go_upto_region 4 with fail
  generalize (w2.alloc (.cells #[.int .i64 (1 + (kd : Int)), .slice p3 nl c3, .slice p4 nr c4] 37)) = w3 at *
  have hfin := Lib.hid (hbw.trans (b3.mono hbw.size))
  have hnr : (nr : Int) ≤ n := by rw [← hdv]; exact Int.ediv_le_self _ (by omega)
  have hf3 : IntKind.i64.wrap (nr : Int) = (nr : Int) := IntWalk.i64_in _ (by omega)
  have hf0 : IntKind.i64.wrap ((n : Int).tdiv (1 + (kd : Int))) = (nr : Int) := by rw [Int.tdiv_eq_ediv_of_nonneg (by omega), hdv]; exact hf3
  have hf1 : (n : Int).tmod (1 + (kd : Int)) = (nl : Int) := by rw [Int.tmod_eq_emod_of_nonneg (by omega), hmd]
  have hf2 : (n : Int).tdiv (1 + (kd : Int)) = (nr : Int) := by rw [Int.tdiv_eq_ediv_of_nonneg (by omega), hdv]
  clear b3 B3 z3 hdv hmd
  by_cases h0 : 0 < n
  · have hd1 : decide ((0 : Int) < (n : Int)) = true := by simp; omega
    have hd2 : decide (0 < n) = true := by simp; omega
    go_quiet (fail)
    go_wp2_with fail
    go_ret
    exact ⟨rfl, below_drewN hfin.out _⟩
  · have hd1 : decide ((0 : Int) < (n : Int)) = false := by simp; omega
    have hd2 : decide (0 < n) = false := by simp; omega
    go_quiet (fail)
    go_wp2_with fail
    go_ret
    exact ⟨rfl, below_drewN hfin.out _⟩
end Go.Proofs.Ytfecpifhfihikaa
