/- The walk of varint.Put: it answers a new slice that holds the bytes that put says, for every number. -/
import Derived.Test.YtmdbcknlipahgaaDoorOwn
namespace Go.Proofs.YtmdbcknlipahgaaDoor
open Go.RowKit
set_option maxHeartbeats 400000 in
set_option maxRecDepth 20000 in
theorem put_any (n : Nat) (w : World) (hn : n < U64) :
    Calls Tryd.prog 42 #[.int .u64 (n : Int)] w fun e w' => ∃ p c, e = .returned (.slice p (put n).length c) ∧ w'.ownsRow w.heap.size 5 1 (.slice p (put n).length c) (put n).length (bys (put n)) ∧ Below w.heap.size w w' := by
  go_enter Tryd.func42, Tryd.ntmps42
  go_wp2
  go_loopw [0, 3] (fun n1 b wr => ∃ (m : Nat) (pre : List Nat), n1 = .int .u64 (m : Int) ∧ m < U64 ∧ wr.ownsRow w.heap.size 5 1 b pre.length (bys pre) ∧ pre ++ put m = put n ∧ Below w.heap.size w wr ∧ w.heap.size ≤ wr.heap.size)
    (fun n1 _ _ => (intOf n1).toNat)
  case atStart => exact ⟨n, [], rfl, hn, World.ownsRow_nil _ _ _ _, rfl, Below.refl _ _, Nat.le_refl _⟩
  case round =>
    obtain ⟨m, pre, rfl, hm, hown, hpre, hb, hsz⟩ := hrel
    have hl10 : pre.length ≤ 10 := by have h1 := put_len10 hn; rw [← hpre, List.length_append] at h1; omega
    have hor := Lib.hid (or128 m)
    have hP := Lib.hid hpre
    clear hpre
    by_cases h128 : 128 ≤ m
    · go_wp2_with (at_builtin; refine wp_app1 rfl _ _ _ rfl _ _ Tryd.underlying54 inf_u8 rfl (by decide) rfl hown (us := [_]) rfl rfl (by simp [Value.oneCell']) (by unfold maxLen; omega) (by omega) hb hsz ?_; intro p1 c1 w1 hown1 hb1 hsz1 _ _)
      rw [hor.out, ← bys_snoc] at hown1
      go_roundw
      case rel => exact ⟨m / 128, pre ++ [m % 128 + 128], by go_num, by omega, by simpa using hown1, by rw [← hP.out, put_ge h128]; simp, hb1, hsz1⟩
      case measure => simp [intOf]; omega
    · have hlast : put m = [m] := put_lt (by omega)
      have hb8 : ((m : Int) % 256) = (m : Int) := by omega
      go_wp2_with (at_builtin; refine wp_app1 rfl _ _ _ rfl _ _ Tryd.underlying54 inf_u8 rfl (by decide) rfl hown (us := [_]) rfl rfl (by simp [Value.oneCell']) (by unfold maxLen; omega) (by omega) hb hsz ?_; intro p1 c1 w1 hown1 hb1 hsz1 _ _)
      go_ret
      have e := hP.out
      rw [hlast] at e
      rw [← e]
      refine ⟨p1, c1, ?_, ?_, hb1⟩
      · simp
      · rw [bys_snoc]; simpa using hown1
theorem put_i (mi : Int) (n : Nat) (w : World) (h : mi = (n : Int)) (hn : n < U64) :
    Calls Tryd.prog 42 #[.int .u64 mi] w fun e w' => ∃ p c, e = .returned (.slice p (put n).length c) ∧ w'.ownsRow w.heap.size 5 1 (.slice p (put n).length c) (put n).length (bys (put n)) ∧ Below w.heap.size w w' := by
  subst h
  exact put_any n w hn
end Go.Proofs.YtmdbcknlipahgaaDoor
