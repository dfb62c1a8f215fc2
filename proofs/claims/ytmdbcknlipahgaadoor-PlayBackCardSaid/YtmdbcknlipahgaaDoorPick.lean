/- The walk of pacelinekeep.picked: a number from 0 to many - 1. -/
import Derived.Test.YtmdbcknlipahgaaDoorOwn
namespace Go.Proofs.YtmdbcknlipahgaaDoor
open Go.RowKit
/-- a number from 0 to many - 1 -/
def pickN (n : Int) (m : Nat) : Nat := ((if n < 0 then -(n + 1) else n) % (m : Int)).toNat
theorem pickN_lt (n : Int) {m : Nat} (hm : 1 ≤ m) : pickN n m < m := by
  have h1 := Int.emod_nonneg (if n < 0 then -(n + 1) else n) (b := (m : Int)) (by omega)
  have h2 := Int.emod_lt_of_pos (if n < 0 then -(n + 1) else n) (b := (m : Int)) (by omega)
  unfold pickN
  omega
set_option maxHeartbeats 400000 in
set_option maxRecDepth 100000 in
theorem picked_any (n : Int) (m : Nat) (w : World) (h0 : -9223372036854775808 ≤ n) (h1 : n ≤ 9223372036854775807) (hm : 1 ≤ m) (hm2 : m ≤ 9223372036854775807) :
    Calls Tryd.prog 18 #[.int .i64 n, .int .i64 (m : Int)] w fun e w' => e = .returned (.int .i64 (pickN n m : Int)) ∧ w = w' := by
  by_cases hn : n < 0
  · have e : (pickN n m : Int) = -(n + 1) % (m : Int) := by
      unfold pickN; rw [if_pos hn]; exact Int.toNat_of_nonneg (Int.emod_nonneg _ (by omega))
    rw [e]
    clear e
    have hm0 : ((m : Int) == 0) = false := by simp; omega
    go_enter Tryd.func18, Tryd.ntmps18
    go_wp2
    go_ret
    exact ⟨congrArg (fun z => Ending.returned (.int .i64 z)) (by rw [← Int.neg_tmod, Int.tmod_eq_emod_of_nonneg (by omega)]), rfl⟩
  · have e : (pickN n m : Int) = n % (m : Int) := by
      unfold pickN; rw [if_neg hn]; exact Int.toNat_of_nonneg (Int.emod_nonneg _ (by omega))
    rw [e]
    clear e
    have hm0 : ((m : Int) == 0) = false := by simp; omega
    go_enter Tryd.func18, Tryd.ntmps18
    go_wp2
    go_ret
    exact ⟨rfl, rfl⟩
theorem picked_i (n mi : Int) (m : Nat) (w : World) (hmi : mi = (m : Int)) (h0 : -9223372036854775808 ≤ n) (h1 : n ≤ 9223372036854775807) (hm : 1 ≤ m) (hm2 : m ≤ 9223372036854775807) :
    Calls Tryd.prog 18 #[.int .i64 n, .int .i64 mi] w fun e w' => e = .returned (.int .i64 (pickN n m : Int)) ∧ w = w' := by
  subst hmi
  exact picked_any n m w h0 h1 hm hm2
end Go.Proofs.YtmdbcknlipahgaaDoor
