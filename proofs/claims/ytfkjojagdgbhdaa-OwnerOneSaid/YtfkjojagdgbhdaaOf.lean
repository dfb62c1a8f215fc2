/- The walks of owner.Of and owner.Place, for a vertex that is inside. -/
import Derived.Test.YtfkjojagdgbhdaaMine
namespace Go.Proofs.Ytfkjojagdgbhdaa
open Go.RowKit
set_option maxHeartbeats 400000 in
set_option maxRecDepth 100000 in
theorem of_any (v n W : Nat) (w : World) (hv : v < n) (hn : n ≤ 200) (hW : 1 ≤ W) (hW8 : W ≤ 8) :
    Calls Try.prog 24 #[.int .i64 (v : Int), .int .i64 (n : Int), .int .i64 (W : Int)] w fun e w' => e = .returned (.tuple #[.int .i64 ((v % W : Nat) : Int), .int .i64 0]) ∧ w = w' := by
  have hk0 : decide ((v : Int) < 0) = false := by simp <;> omega
  have hk1 : decide ((n : Int) ≤ (v : Int)) = false := by simp <;> omega
  have hk2 : decide (n ≤ v) = false := by simp <;> omega
  have hm0 : ((W : Int) == 0) = false := by simp <;> omega
  go_enter Try.func24, Try.ntmps24
  go_wp2_with fail
  refine (fits_yes n W _ hn hW hW8).mono ?_; rintro e w' ⟨rfl, rfl⟩
  go_wp2_with fail
  go_ret2
  exact ⟨by simp, rfl⟩
set_option maxHeartbeats 400000 in
set_option maxRecDepth 100000 in
theorem place_any (v n W : Nat) (w : World) (hv : v < n) (hn : n ≤ 200) (hW : 1 ≤ W) (hW8 : W ≤ 8) :
    Calls Try.prog 25 #[.int .i64 (v : Int), .int .i64 (n : Int), .int .i64 (W : Int)] w fun e w' => e = .returned (.tuple #[.int .i64 ((v / W : Nat) : Int), .int .i64 0]) ∧ w = w' := by
  have hm0 : ((W : Int) == 0) = false := by simp <;> omega
  have q0 : 0 ≤ (v : Int) / (W : Int) := Int.ediv_nonneg (by omega) (by omega)
  have q1 : (v : Int) / (W : Int) ≤ 200 := by have := Nat.div_le_self v W; have e : (v : Int) / (W : Int) = ((v / W : Nat) : Int) := by simp
                                              rw [e]; omega
  go_enter Try.func25, Try.ntmps25
  go_wp2_with fail
  refine (of_any v n W _ hv hn hW hW8).mono ?_; rintro e w' ⟨rfl, rfl⟩
  go_wp2_with fail
  go_ret2
  exact ⟨by simp, rfl⟩
end Go.Proofs.Ytfkjojagdgbhdaa
