/- The walks of owner.fits and owner.Mine, for numbers that fit. -/
import Derived.Test.YtcaolnpkpialdaaBoxed
import Derived.Test.YtcaolnpkpialdaaPOwner
namespace Go.Proofs.Ytcaolnpkpialdaa
open Go.RowKit
theorem its_snoc (l : List Int) (x : Int) : its (l ++ [x]) = its l ++ [Value.int .i64 x] := by simp [its]
set_option maxHeartbeats 400000 in
set_option maxRecDepth 100000 in
theorem fits_yes (n W : Nat) (w : World) (hn : n ≤ 200) (hW : 1 ≤ W) (hW8 : W ≤ 8) :
    Calls Try.prog 63 #[.int .i64 (n : Int), .int .i64 (W : Int)] w fun e w' => e = .returned (.bool true) ∧ w = w' := by
  have h8 : decide ((W : Int) ≤ 8) = true := by simp <;> omega
  go_enter Try.func63, Try.ntmps63
  go_wp2
  go_ret
  exact ⟨rfl, rfl⟩
set_option maxHeartbeats 400000 in
set_option maxRecDepth 100000 in
theorem mine_any (k n W : Nat) (w : World) (hk : k < W) (hn : n ≤ 200) (hW8 : W ≤ 8) :
    Calls Try.prog 30 #[.int .i64 (k : Int), .int .i64 (n : Int), .int .i64 (W : Int)] w fun e w' => ∃ p c, e = .returned (.tuple #[.slice p (cntV k n W) c, .int .i64 0]) ∧ w'.ownsRow w.heap.size 3 1 (.slice p (cntV k n W) c) (cntV k n W) (its (mineL k n W)) ∧ Below w.heap.size w w' := by
  have hW : 1 ≤ W := by omega
  have hk0 : decide ((k : Int) < 0) = false := by simp <;> omega
  have hk1 : decide ((W : Int) ≤ (k : Int)) = false := by simp <;> omega
  have hk2 : decide (W ≤ k) = false := by simp <;> omega
  go_enter Try.func30, Try.ntmps30
  go_wp2_with fail
  refine (fits_yes n W _ hn hW hW8).mono ?_; rintro e w' ⟨rfl, rfl⟩
  go_wp2_with fail
  go_loopw [8, 9] (fun l v wr => ∃ j : Nat, v = .int .i64 ((k + j * W : Nat) : Int) ∧ j ≤ cntV k n W ∧ k + j * W ≤ 216 ∧ wr.ownsRow w.heap.size 3 1 l j (its ((List.range j).map fun i : Nat => ((k + i * W : Nat) : Int))) ∧ Below w.heap.size w wr ∧ w.heap.size ≤ wr.heap.size)
    (fun _ v _ => 300 - (intOf v).toNat)
  case atStart => exact ⟨0, by simp, by omega, by omega, World.ownsRow_nil _ _ _ _, Below.refl _ _, Nat.le_refl _⟩
  case round =>
    obtain ⟨j, rfl, hj, hjW, hown, hb, hsz⟩ := hrel
    have hiff := cntV_iff (w := k) (n := n) (k := j) hW
    have hcl := cntV_le (w := k) (n := n) hW
    obtain ⟨v, hv⟩ : ∃ v, v = k + j * W := ⟨_, rfl⟩
    rw [← hv] at hjW hiff
    rw [← hv]
    have HV := Lib.hid hv
    clear hv
    by_cases hlt : v < n
    · have hlt2 : j < cntV k n W := hiff.2 hlt
      clear hiff
      go_wp2_with (at_builtin; refine wp_app1 rfl _ _ _ rfl _ _ Try.underlying28 inf_int rfl (by decide) rfl hown (us := [_]) rfl rfl (by simp [Value.oneCell']) (by unfold maxLen; omega) (by omega) hb hsz ?_; intro p1 c1 w1 hown1 hb1 hsz1 _ _)
      rw [← its_snoc] at hown1
      have e1 : k + (j + 1) * W = v + W := by have := HV.out; rw [Nat.add_mul, Nat.one_mul]; omega
      go_roundw
      case rel =>
        refine ⟨j + 1, ?_, hlt2, by omega, ?_, hb1, hsz1⟩
        · rw [e1]; go_num
        · rw [List.range_succ, List.map_append, List.map_cons, List.map_nil, ← HV.out]; exact hown1
      case measure => simp [intOf]; omega
    · have hje : j = cntV k n W := by have : ¬ j < cntV k n W := fun h => hlt (hiff.1 h); omega
      clear hiff
      go_wp2
      go_ret2
      obtain ⟨p1, c1, hv⟩ := own_slice hown
      rw [hje] at hown hv
      rw [hv] at hown ⊢
      exact ⟨p1, c1, rfl, hown, hb⟩
end Go.Proofs.Ytcaolnpkpialdaa
