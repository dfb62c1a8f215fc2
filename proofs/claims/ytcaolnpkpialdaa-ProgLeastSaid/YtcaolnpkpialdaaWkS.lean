/- The walks of prog's small functions: top, phases, value, jobOf. -/
import Derived.Test.YtcaolnpkpialdaaBoxed
import Derived.Deep.RegionHeld3
import Derived.Deep.DeepCutAuto
import Derived.IntWalk
namespace Go.Proofs.Ytcaolnpkpialdaa
open Go.RowKit
def topN (k : Nat) : Int := if k = 1 then 4398046511104 else 199
set_option maxHeartbeats 400000 in
set_option maxRecDepth 100000 in
theorem top_ok (k : Nat) (w : World) : Calls Try.prog 49 #[.int .i64 (k : Int)] w fun e w' => e = .returned (.int .i64 (topN k)) ∧ w = w' := by
  unfold topN
  by_cases h : k = 1
  · subst h
    go_enter Try.func49, Try.ntmps49
    go_wp2
    go_ret
    exact ⟨rfl, rfl⟩
  · have he : ((k : Int) == 1) = false := by simp; omega
    rw [if_neg h]
    go_enter Try.func49, Try.ntmps49
    go_wp2
    go_ret
    exact ⟨rfl, rfl⟩
set_option maxHeartbeats 400000 in
set_option maxRecDepth 100000 in
theorem phases0_ok (k : Nat) (w : World) : Calls Try.prog 47 #[.int .i64 (k : Int), .int .i64 0] w fun e w' => e = .returned (.bool true) ∧ w = w' := by
  go_enter Try.func47, Try.ntmps47
  go_wp2
  go_ret
  exact ⟨rfl, rfl⟩
set_option maxHeartbeats 400000 in
set_option maxRecDepth 100000 in
theorem phases1_ok (w : World) : Calls Try.prog 47 #[.int .i64 3, .int .i64 1] w fun e w' => e = .returned (.bool true) ∧ w = w' := by
  go_enter Try.func47, Try.ntmps47
  go_wp2
  go_ret
  exact ⟨rfl, rfl⟩
set_option maxHeartbeats 2000000 in
set_option maxRecDepth 100000 in
theorem value_ok (k : Nat) (a b : Int) (w : World) (ha : -1 ≤ a) (ha2 : a ≤ 199) (hb : -1 ≤ b) (hb2 : b < 200) :
    Calls Try.prog 48 #[.int .i64 (k : Int), .agg #[.int .i64 a, .int .i64 b]] w fun e w' => e = .returned (.bool true) ∧ Below w.heap.size w w' := by
  obtain ⟨b1, B1, z1⟩ := boxed0 w [.int .i64 a, .int .i64 b] 49
  have HTP := Lib.hid (fun W => top_ok k W)
  have ht : 199 ≤ topN k := by unfold topN; split <;> omega
  generalize topN k = t at *
  obtain ⟨hx0, hx1, hf0, hf1⟩ := B1.two
  have HB := Lib.hid b1
  have HX := Lib.hid B1
  have d1 : decide (a < -1) = false := by simp; omega
  have d2 : decide (t < a) = false := by simp; omega
  have d3 : decide (b < -1) = false := by simp; omega
  have d4 : decide (b < 200) = true := by simp; omega
  have d5 : a ≤ t := by omega
  clear b1 B1 z1
  go_enter Try.func48, Try.ntmps48
  go_upto_region 1 with fail
  generalize (w.alloc (.cells #[.int .i64 a, .int .i64 b] 49)) = W at *
  go_region_held3 (fun w' => w'.cell? ⟨w.heap.size, 0, none⟩ = some (Value.int .i64 a) ∧ w'.cell? ⟨w.heap.size, 1, none⟩ = some (Value.int .i64 b)) (first | (exact ⟨hx0, hx1⟩) | go_keep)
    (first
      | (go_at_call 49; refine (HTP.out _).mono ?_; rintro e wn ⟨rfl, rfl⟩))
  go_wp2_with fail
  go_ret
  exact ⟨rfl, HB.out.drew⟩
set_option maxHeartbeats 400000 in
set_option maxRecDepth 100000 in
theorem jobOf1_ok (w : World) : Calls Try.prog 46 #[.int .i64 1] w fun e w' => e = .returned (.iface 165 (.agg #[])) ∧ w = w' := by
  go_enter Try.func46, Try.ntmps46
  go_wp2
  go_ret
  exact ⟨rfl, rfl⟩
set_option maxHeartbeats 400000 in
set_option maxRecDepth 100000 in
theorem jobOf2_ok (w : World) : Calls Try.prog 46 #[.int .i64 2] w fun e w' => e = .returned (.iface 166 (.agg #[])) ∧ w = w' := by
  go_enter Try.func46, Try.ntmps46
  go_wp2
  go_ret
  exact ⟨rfl, rfl⟩
set_option maxHeartbeats 400000 in
set_option maxRecDepth 100000 in
theorem jobOf3_ok (w : World) : Calls Try.prog 46 #[.int .i64 3] w fun e w' => e = .returned (.iface 168 (.agg #[])) ∧ w = w' := by
  go_enter Try.func46, Try.ntmps46
  go_wp2
  go_ret
  exact ⟨rfl, rfl⟩
end Go.Proofs.Ytcaolnpkpialdaa
