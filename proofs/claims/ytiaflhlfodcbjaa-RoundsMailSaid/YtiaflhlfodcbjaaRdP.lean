/- The walks of prog.Ways and prog.Say. -/
import Derived.Test.YtiaflhlfodcbjaaWkW
import Derived.Test.YtiaflhlfodcbjaaPRnd
import Derived.OwnWalk
namespace Go.Proofs.Ytiaflhlfodcbjaa
open Go.RowKit
set_option maxHeartbeats 2000000 in
set_option maxRecDepth 100000 in
theorem ways_10 (w : World) : Calls Try.prog 14 #[.int .i64 1, .int .i64 0] w fun e w' => e = .returned (.tuple #[.bool true, .bool false, .int .i64 0]) ∧ Below w.heap.size w w' := by
  have hqn : ∀ (W : World), (binOp .eql 68 (.iface 109 (.agg #[])) .nilIface).run Try.prog W = .ok (.bool false) W := fun _ => by kernel_rfl
  have hna : ∀ (fuel : Nat) (W : World), (method (fuel + 1) 109 (.agg #[]) "paceline/prog.ways").run Try.prog W = .ok (114, .agg #[]) W := fun _ _ => by kernel_rfl
  go_enter Try.func14, Try.ntmps14
  go_wp2_with fail
  refine (jobOf1_ok _).mono ?_; rintro e wn ⟨rfl, rfl⟩
  go_wp2_with (first
    | (go_at_call 31; refine (show Calls Try.prog 31 #[.int .i64 1, .int .i64 0] w fun e w' => e = .returned (.bool true) ∧ w = w' from phases0_ok 1 w).mono ?_; rintro e wn ⟨rfl, rfl⟩)
    | go_in)
  go_ret3
  exact ⟨rfl, alloc_below _ _⟩
set_option maxHeartbeats 2000000 in
set_option maxRecDepth 100000 in
theorem ways_20 (w : World) : Calls Try.prog 14 #[.int .i64 2, .int .i64 0] w fun e w' => e = .returned (.tuple #[.bool true, .bool true, .int .i64 0]) ∧ Below w.heap.size w w' := by
  have hqn : ∀ (W : World), (binOp .eql 68 (.iface 110 (.agg #[])) .nilIface).run Try.prog W = .ok (.bool false) W := fun _ => by kernel_rfl
  have hna : ∀ (fuel : Nat) (W : World), (method (fuel + 1) 110 (.agg #[]) "paceline/prog.ways").run Try.prog W = .ok (118, .agg #[]) W := fun _ _ => by kernel_rfl
  go_enter Try.func14, Try.ntmps14
  go_wp2_with fail
  refine (jobOf2_ok _).mono ?_; rintro e wn ⟨rfl, rfl⟩
  go_wp2_with (first
    | (go_at_call 31; refine (show Calls Try.prog 31 #[.int .i64 2, .int .i64 0] w fun e w' => e = .returned (.bool true) ∧ w = w' from phases0_ok 2 w).mono ?_; rintro e wn ⟨rfl, rfl⟩)
    | go_in)
  go_ret3
  exact ⟨rfl, alloc_below _ _⟩
set_option maxHeartbeats 2000000 in
set_option maxRecDepth 100000 in
theorem ways_30 (w : World) : Calls Try.prog 14 #[.int .i64 3, .int .i64 0] w fun e w' => e = .returned (.tuple #[.bool true, .bool false, .int .i64 0]) ∧ Below w.heap.size w w' := by
  have hqn : ∀ (W : World), (binOp .eql 68 (.iface 112 (.agg #[])) .nilIface).run Try.prog W = .ok (.bool false) W := fun _ => by kernel_rfl
  have hna : ∀ (fuel : Nat) (W : World), (method (fuel + 1) 112 (.agg #[]) "paceline/prog.ways").run Try.prog W = .ok (120, .agg #[]) W := fun _ _ => by kernel_rfl
  go_enter Try.func14, Try.ntmps14
  go_wp2_with fail
  refine (jobOf3_ok _).mono ?_; rintro e wn ⟨rfl, rfl⟩
  go_wp2_with (first
    | (go_at_call 31; refine (show Calls Try.prog 31 #[.int .i64 3, .int .i64 0] w fun e w' => e = .returned (.bool true) ∧ w = w' from phases0_ok 3 w).mono ?_; rintro e wn ⟨rfl, rfl⟩)
    | go_in)
  go_ret3
  exact ⟨rfl, alloc_below _ _⟩
set_option maxHeartbeats 2000000 in
set_option maxRecDepth 100000 in
theorem ways_31 (w : World) : Calls Try.prog 14 #[.int .i64 3, .int .i64 1] w fun e w' => e = .returned (.tuple #[.bool false, .bool true, .int .i64 0]) ∧ Below w.heap.size w w' := by
  have hqn : ∀ (W : World), (binOp .eql 68 (.iface 112 (.agg #[])) .nilIface).run Try.prog W = .ok (.bool false) W := fun _ => by kernel_rfl
  have hna : ∀ (fuel : Nat) (W : World), (method (fuel + 1) 112 (.agg #[]) "paceline/prog.ways").run Try.prog W = .ok (120, .agg #[]) W := fun _ _ => by kernel_rfl
  go_enter Try.func14, Try.ntmps14
  go_wp2_with fail
  refine (jobOf3_ok _).mono ?_; rintro e wn ⟨rfl, rfl⟩
  go_wp2_with (first
    | (go_at_call 31; refine (show Calls Try.prog 31 #[.int .i64 3, .int .i64 1] w fun e w' => e = .returned (.bool true) ∧ w = w' from phases1_ok w).mono ?_; rintro e wn ⟨rfl, rfl⟩)
    | go_in)
  go_ret3
  exact ⟨rfl, alloc_below _ _⟩
theorem ways_ok (k ph : Nat) (hk : 1 ≤ k ∧ k ≤ 3) (hp : ph = 0 ∨ (k = 3 ∧ ph = 1)) (w : World) : Calls Try.prog 14 #[.int .i64 (k : Int), .int .i64 (ph : Int)] w fun e w' => e = .returned (.tuple #[.bool (wayO k ph), .bool (wayI k ph), .int .i64 0]) ∧ Below w.heap.size w w' := by
  rcases hp with rfl | ⟨rfl, rfl⟩
  · obtain rfl | rfl | rfl : k = 1 ∨ k = 2 ∨ k = 3 := by omega
    · exact ways_10 w
    · exact ways_20 w
    · exact ways_30 w
  · exact ways_31 w
set_option maxHeartbeats 2000000 in
set_option maxRecDepth 100000 in
theorem say_10 (a b : Int) (wt : Nat) (w : World) (ha : 0 ≤ a) (ha2 : a ≤ 199) (hb : -1 ≤ b) (hb2 : b < 200) (hw : wt < 10) : Calls Try.prog 44 #[.int .i64 1, .agg #[.int .i64 a, .int .i64 b], .int .i64 0, .int .i64 (wt : Int)] w fun e w' => e = .returned (.tuple #[.int .i64 (sayF 1 a wt), .int .i64 0]) ∧ Below w.heap.size w w' := by
  have hqn : ∀ (W : World), (binOp .eql 68 (.iface 109 (.agg #[])) .nilIface).run Try.prog W = .ok (.bool false) W := fun _ => by kernel_rfl
  have hna : ∀ (fuel : Nat) (W : World), (method (fuel + 1) 109 (.agg #[]) "paceline/prog.say").run Try.prog W = .ok (112, .agg #[]) W := fun _ _ => by kernel_rfl
  have HVA := Lib.hid (fun (W : World) => (show Calls Try.prog 32 #[.int .i64 1, .agg #[.int .i64 a, .int .i64 b]] W fun e w' => e = .returned (.bool true) ∧ Below W.heap.size W w' from value_ok 1 a b W (by omega) ha2 hb hb2))
  obtain ⟨b1, B1, z1⟩ := boxed0 w [.int .i64 a, .int .i64 b] 40
  obtain ⟨hx0, hx1, _, _⟩ := B1.two
  have HX := Lib.hid B1
  have HB := Lib.hid b1
  have e1 : (a == -1) = false := by simp; omega
  have e2 : decide ((wt : Int) < 0) = false := by simp <;> omega
  have e3 : decide ((1099511627776 : Int) < (wt : Int)) = false := by simp; omega
  have e4 : decide (1099511627776 < wt) = false := by simp; omega
  have e5 : decide ((4398046511104 : Int) - (wt : Int) < a) = false := by simp; omega
  clear b1 B1 z1
  go_enter Try.func44, Try.ntmps44
  go_wp2_with fail
  generalize (w.alloc (.cells #[.int .i64 a, .int .i64 b] 40)) = w1 at *
  refine (jobOf1_ok _).mono ?_; rintro e wn ⟨rfl, rfl⟩
  have hph := (show Calls Try.prog 31 #[.int .i64 1, .int .i64 0] w1 fun e w' => e = .returned (.bool true) ∧ w1 = w' from phases0_ok 1 w1)
  go_wp2_with (go_at_call 31; refine hph.mono ?_; rintro e wn ⟨rfl, rfl⟩)
  refine (HVA.out _).mono ?_; rintro e w2 ⟨rfl, hb2'⟩
  obtain ⟨hx0, hx1, _, _⟩ := (HX.out.next hb2').two
  have HB2 := Lib.hid (HB.out.trans (hb2'.mono HB.out.size))
  clear hb2' hph
  go_wp2_with go_in
  go_ret2
  exact ⟨rfl, (HB2.out.alloc HB2.out.size _).alloc (by have := HB2.out.size; simp; omega) _⟩
set_option maxHeartbeats 2000000 in
set_option maxRecDepth 100000 in
theorem say_20 (a b : Int) (wt : Nat) (w : World) (ha : 0 ≤ a) (ha2 : a ≤ 199) (hb : -1 ≤ b) (hb2 : b < 200) (hw : wt < 10) : Calls Try.prog 44 #[.int .i64 2, .agg #[.int .i64 a, .int .i64 b], .int .i64 0, .int .i64 (wt : Int)] w fun e w' => e = .returned (.tuple #[.int .i64 (sayF 2 a wt), .int .i64 0]) ∧ Below w.heap.size w w' := by
  have hqn : ∀ (W : World), (binOp .eql 68 (.iface 110 (.agg #[])) .nilIface).run Try.prog W = .ok (.bool false) W := fun _ => by kernel_rfl
  have hna : ∀ (fuel : Nat) (W : World), (method (fuel + 1) 110 (.agg #[]) "paceline/prog.say").run Try.prog W = .ok (116, .agg #[]) W := fun _ _ => by kernel_rfl
  have HVA := Lib.hid (fun (W : World) => (show Calls Try.prog 32 #[.int .i64 2, .agg #[.int .i64 a, .int .i64 b]] W fun e w' => e = .returned (.bool true) ∧ Below W.heap.size W w' from value_ok 2 a b W (by omega) ha2 hb hb2))
  obtain ⟨b1, B1, z1⟩ := boxed0 w [.int .i64 a, .int .i64 b] 40
  obtain ⟨hx0, hx1, _, _⟩ := B1.two
  have HX := Lib.hid B1
  have HB := Lib.hid b1
  have e1 : (a == -1) = false := by simp; omega
  have e2 : decide ((wt : Int) < 0) = false := by simp <;> omega
  have e3 : decide ((1099511627776 : Int) < (wt : Int)) = false := by simp; omega
  have e4 : decide (1099511627776 < wt) = false := by simp; omega
  have e5 : decide ((4398046511104 : Int) - (wt : Int) < a) = false := by simp; omega
  clear b1 B1 z1
  go_enter Try.func44, Try.ntmps44
  go_wp2_with fail
  generalize (w.alloc (.cells #[.int .i64 a, .int .i64 b] 40)) = w1 at *
  refine (jobOf2_ok _).mono ?_; rintro e wn ⟨rfl, rfl⟩
  have hph := (show Calls Try.prog 31 #[.int .i64 2, .int .i64 0] w1 fun e w' => e = .returned (.bool true) ∧ w1 = w' from phases0_ok 2 w1)
  go_wp2_with (go_at_call 31; refine hph.mono ?_; rintro e wn ⟨rfl, rfl⟩)
  refine (HVA.out _).mono ?_; rintro e w2 ⟨rfl, hb2'⟩
  obtain ⟨hx0, hx1, _, _⟩ := (HX.out.next hb2').two
  have HB2 := Lib.hid (HB.out.trans (hb2'.mono HB.out.size))
  clear hb2' hph
  go_wp2_with go_in
  go_ret2
  exact ⟨rfl, (HB2.out.alloc HB2.out.size _).alloc (by have := HB2.out.size; simp; omega) _⟩
set_option maxHeartbeats 2000000 in
set_option maxRecDepth 100000 in
theorem say_30 (a b : Int) (wt : Nat) (w : World) (ha : 0 ≤ a) (ha2 : a ≤ 199) (hb : -1 ≤ b) (hb2 : b < 200) (hw : wt < 10) : Calls Try.prog 44 #[.int .i64 3, .agg #[.int .i64 a, .int .i64 b], .int .i64 0, .int .i64 (wt : Int)] w fun e w' => e = .returned (.tuple #[.int .i64 (sayF 3 a wt), .int .i64 0]) ∧ Below w.heap.size w w' := by
  have hqn : ∀ (W : World), (binOp .eql 68 (.iface 112 (.agg #[])) .nilIface).run Try.prog W = .ok (.bool false) W := fun _ => by kernel_rfl
  have hna : ∀ (fuel : Nat) (W : World), (method (fuel + 1) 112 (.agg #[]) "paceline/prog.say").run Try.prog W = .ok (116, .agg #[]) W := fun _ _ => by kernel_rfl
  have HVA := Lib.hid (fun (W : World) => (show Calls Try.prog 32 #[.int .i64 3, .agg #[.int .i64 a, .int .i64 b]] W fun e w' => e = .returned (.bool true) ∧ Below W.heap.size W w' from value_ok 3 a b W (by omega) ha2 hb hb2))
  obtain ⟨b1, B1, z1⟩ := boxed0 w [.int .i64 a, .int .i64 b] 40
  obtain ⟨hx0, hx1, _, _⟩ := B1.two
  have HX := Lib.hid B1
  have HB := Lib.hid b1
  have e1 : (a == -1) = false := by simp; omega
  have e2 : decide ((wt : Int) < 0) = false := by simp <;> omega
  have e3 : decide ((1099511627776 : Int) < (wt : Int)) = false := by simp; omega
  have e4 : decide (1099511627776 < wt) = false := by simp; omega
  have e5 : decide ((4398046511104 : Int) - (wt : Int) < a) = false := by simp; omega
  clear b1 B1 z1
  go_enter Try.func44, Try.ntmps44
  go_wp2_with fail
  generalize (w.alloc (.cells #[.int .i64 a, .int .i64 b] 40)) = w1 at *
  refine (jobOf3_ok _).mono ?_; rintro e wn ⟨rfl, rfl⟩
  have hph := (show Calls Try.prog 31 #[.int .i64 3, .int .i64 0] w1 fun e w' => e = .returned (.bool true) ∧ w1 = w' from phases0_ok 3 w1)
  go_wp2_with (go_at_call 31; refine hph.mono ?_; rintro e wn ⟨rfl, rfl⟩)
  refine (HVA.out _).mono ?_; rintro e w2 ⟨rfl, hb2'⟩
  obtain ⟨hx0, hx1, _, _⟩ := (HX.out.next hb2').two
  have HB2 := Lib.hid (HB.out.trans (hb2'.mono HB.out.size))
  clear hb2' hph
  go_wp2_with go_in
  go_ret2
  exact ⟨rfl, (HB2.out.alloc HB2.out.size _).alloc (by have := HB2.out.size; simp; omega) _⟩
set_option maxHeartbeats 2000000 in
set_option maxRecDepth 100000 in
theorem say_31 (a b : Int) (wt : Nat) (w : World) (ha : 0 ≤ a) (ha2 : a ≤ 199) (hb : -1 ≤ b) (hb2 : b < 200) (hw : wt < 10) : Calls Try.prog 44 #[.int .i64 3, .agg #[.int .i64 a, .int .i64 b], .int .i64 1, .int .i64 (wt : Int)] w fun e w' => e = .returned (.tuple #[.int .i64 (sayF 3 a wt), .int .i64 0]) ∧ Below w.heap.size w w' := by
  have hqn : ∀ (W : World), (binOp .eql 68 (.iface 112 (.agg #[])) .nilIface).run Try.prog W = .ok (.bool false) W := fun _ => by kernel_rfl
  have hna : ∀ (fuel : Nat) (W : World), (method (fuel + 1) 112 (.agg #[]) "paceline/prog.say").run Try.prog W = .ok (116, .agg #[]) W := fun _ _ => by kernel_rfl
  have HVA := Lib.hid (fun (W : World) => (show Calls Try.prog 32 #[.int .i64 3, .agg #[.int .i64 a, .int .i64 b]] W fun e w' => e = .returned (.bool true) ∧ Below W.heap.size W w' from value_ok 3 a b W (by omega) ha2 hb hb2))
  obtain ⟨b1, B1, z1⟩ := boxed0 w [.int .i64 a, .int .i64 b] 40
  obtain ⟨hx0, hx1, _, _⟩ := B1.two
  have HX := Lib.hid B1
  have HB := Lib.hid b1
  have e1 : (a == -1) = false := by simp; omega
  have e2 : decide ((wt : Int) < 0) = false := by simp <;> omega
  have e3 : decide ((1099511627776 : Int) < (wt : Int)) = false := by simp; omega
  have e4 : decide (1099511627776 < wt) = false := by simp; omega
  have e5 : decide ((4398046511104 : Int) - (wt : Int) < a) = false := by simp; omega
  clear b1 B1 z1
  go_enter Try.func44, Try.ntmps44
  go_wp2_with fail
  generalize (w.alloc (.cells #[.int .i64 a, .int .i64 b] 40)) = w1 at *
  refine (jobOf3_ok _).mono ?_; rintro e wn ⟨rfl, rfl⟩
  have hph := (show Calls Try.prog 31 #[.int .i64 3, .int .i64 1] w1 fun e w' => e = .returned (.bool true) ∧ w1 = w' from phases1_ok w1)
  go_wp2_with (go_at_call 31; refine hph.mono ?_; rintro e wn ⟨rfl, rfl⟩)
  refine (HVA.out _).mono ?_; rintro e w2 ⟨rfl, hb2'⟩
  obtain ⟨hx0, hx1, _, _⟩ := (HX.out.next hb2').two
  have HB2 := Lib.hid (HB.out.trans (hb2'.mono HB.out.size))
  clear hb2' hph
  go_wp2_with go_in
  go_ret2
  exact ⟨rfl, (HB2.out.alloc HB2.out.size _).alloc (by have := HB2.out.size; simp; omega) _⟩
theorem say_ok (k ph : Nat) (hk : 1 ≤ k ∧ k ≤ 3) (hp : ph = 0 ∨ (k = 3 ∧ ph = 1)) (a b : Int) (wt : Nat) (w : World) (ha : 0 ≤ a) (ha2 : a ≤ 199) (hb : -1 ≤ b) (hb2 : b < 200) (hw : wt < 10) : Calls Try.prog 44 #[.int .i64 (k : Int), .agg #[.int .i64 a, .int .i64 b], .int .i64 (ph : Int), .int .i64 (wt : Int)] w fun e w' => e = .returned (.tuple #[.int .i64 (sayF k a wt), .int .i64 0]) ∧ Below w.heap.size w w' := by
  rcases hp with rfl | ⟨rfl, rfl⟩
  · obtain rfl | rfl | rfl : k = 1 ∨ k = 2 ∨ k = 3 := by omega
    · exact say_10 a b wt w ha ha2 hb hb2 hw
    · exact say_20 a b wt w ha ha2 hb hb2 hw
    · exact say_30 a b wt w ha ha2 hb hb2 hw
  · exact say_31 a b wt w ha ha2 hb hb2 hw
end Go.Proofs.Ytiaflhlfodcbjaa
