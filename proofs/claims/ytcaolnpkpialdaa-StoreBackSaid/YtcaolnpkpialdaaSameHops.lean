/- The walk of pacelinekeep.sameHops. -/
import Derived.Test.YtcaolnpkpialdaaMailU
import Derived.Deep.QuietTactic
import Derived.BigQuiet
namespace Go.Proofs.Ytcaolnpkpialdaa
open Go.RowKit
set_option maxHeartbeats 1000000 in
set_option maxRecDepth 100000 in
theorem sameHops_any (p q : Option Addr) (c d n m : Nat) (a b : List (Nat × Nat)) (w : World) (ha : Sl w 2 (.slice p n c) n (mcs a)) (hb : Sl w 2 (.slice q m d) m (mcs b)) (hab : a = b) :
    Calls Try.prog 32 #[.slice p n c, .slice q m d] w fun e w' => e = .returned (.bool true) ∧ Below w.heap.size w w' := by
  obtain ⟨hn1, hc63, hll⟩ : n ≤ c ∧ c ≤ 9223372036854775807 ∧ n = a.length := by
    obtain ⟨p', c', hp, h1, h2, h3, _⟩ := ha
    cases hp
    rw [mcs_len] at h3
    exact ⟨h1, by unfold maxLen at h2; omega, by omega⟩
  obtain rfl : m = n := by
    obtain ⟨p', c', hp, h1, h2, h3, _⟩ := hb
    cases hp
    rw [mcs_len] at h3
    rw [hll, hab]; omega
  subst hab
  have HA := Lib.hid ha
  have HB := Lib.hid hb
  have HLN := Lib.hid hll
  clear ha hb hll
  have hne : ((m : Int) != (m : Int)) = false := by simp
  go_enter Try.func32, Try.ntmps32
  go_wp2_with fail
  go_loopw [5] (fun i wr => ∃ k : Nat, i = .int .i64 (k : Int) ∧ k ≤ m ∧ Below w.heap.size w wr ∧ w.heap.size ≤ wr.heap.size) (fun i _ => m - (intOf i).toNat)
  case atStart => exact ⟨0, rfl, by omega, Below.refl _ _, Nat.le_refl _⟩
  case round =>
    obtain ⟨k, rfl, hk, hbl, hsz⟩ := hrel
    by_cases hlt : k < m
    · have hka : k < a.length := by have := HLN.out; omega
      obtain ⟨hg0, hg1⟩ := mcs_at hka
      obtain ⟨b1, off1, rfl, hcell1⟩ := (HA.out.later hbl).get hg0
      obtain ⟨b1', off1', hbe, hcell2⟩ := (HA.out.later hbl).get hg1
      cases hbe
      obtain ⟨b2, off2, rfl, hcell3⟩ := (HB.out.later hbl).get hg0
      obtain ⟨b2', off2', hbe, hcell4⟩ := (HB.out.later hbl).get hg1
      cases hbe
      rw [← Nat.add_assoc] at hcell2 hcell4
      generalize a[k] = mm at hcell1 hcell2 hcell3 hcell4
      clear hg0 hg1
      have hk0 : (0 : Int) ≤ (k : Int) := by omega
      have hkm : (k : Int) < (m : Int) := by omega
      go_wp2_with fail
      go_quiet (fail)
      go_wp2_with fail
      go_roundw
      case rel => exact ⟨k + 1, by go_num, by omega, below_drewN hbl _, hsz⟩
      case measure => simp [intOf]; omega
    · go_wp2_with fail
      go_ret
      exact ⟨rfl, hbl⟩
end Go.Proofs.Ytcaolnpkpialdaa
