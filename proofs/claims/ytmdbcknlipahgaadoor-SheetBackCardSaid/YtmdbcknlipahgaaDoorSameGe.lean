/- The walk of pacelinekeep.sameGraph at graphs that are the same, in raw numbers. -/
import Derived.Test.YtmdbcknlipahgaaDoorChkG
import Derived.Test.YtmdbcknlipahgaaDoorOwn3
import Derived.Deep.QuietTactic
import Derived.BigQuiet
namespace Go.Proofs.YtmdbcknlipahgaaDoor
open Go.RowKit
set_option maxHeartbeats 4000000 in
set_option maxRecDepth 100000 in
theorem sameGe_ok (N : Int) (n c n' c' : Nat) (p p' : Option Addr) (E : List Ge) (w : World) (h : Sl w 3 (.slice p n c) n (ges E)) (h' : Sl w 3 (.slice p' n' c') n' (ges E)) :
    Calls Tryd.prog 13 #[.agg #[.int .i64 N, .slice p n c], .agg #[.int .i64 N, .slice p' n' c']] w fun e w' => e = .returned (.bool true) ∧ Below w.heap.size w w' := by
  obtain ⟨hln, hnc, hc63⟩ := h.glen
  obtain ⟨hln', hnc', hc63'⟩ := h'.glen
  have hnn : n = n' := by omega
  subst hnn
  clear hln'
  have HL := Lib.hid h
  have HL' := Lib.hid h'
  have HLN := Lib.hid hln
  clear h h' hln
  have B1 := (bx_new w [.int .i64 N, .slice p n c] 24).alloc (.cells #[.int .i64 N, .slice p' n c'] 24)
  have B2 := bx_new (w.alloc (.cells #[.int .i64 N, .slice p n c] 24)) [.int .i64 N, .slice p' n c'] 24
  rw [show (w.alloc (.cells #[.int .i64 N, .slice p n c] 24)).heap.size = w.heap.size + 1 from by simp] at B2
  have hW := ((Below.refl w.heap.size w).alloc (Nat.le_refl _) (.cells #[.int .i64 N, .slice p n c] 24)).alloc (by simp) (.cells #[.int .i64 N, .slice p' n c'] 24)
  have he1 : (N != N) = false := by simp
  have he2 : ((n : Int) != (n : Int)) = false := by simp
  go_enter Tryd.func13, Tryd.ntmps13
  go_wp2_with fail
  generalize ((w.alloc (.cells #[.int .i64 N, .slice p n c] 24)).alloc (.cells #[.int .i64 N, .slice p' n c'] 24)) = W at *
  go_loopg [5] n (fun gk v5 wr => ∃ k : Nat, v5 = .int .i64 (k : Int) ∧ k + gk = n ∧ Below w.heap.size w wr ∧ Bx wr w.heap.size [.int .i64 N, .slice p n c] ∧ Bx wr (w.heap.size + 1) [.int .i64 N, .slice p' n c'])
  case atStart => exact ⟨0, rfl, by omega, hW, B1, B2⟩
  case round =>
    clear B1 B2 hW
    obtain ⟨k, rfl, hgk, hb, B1, B2⟩ := hrel
    have HGK := Lib.hid hgk
    have hk : k ≤ n := by omega
    clear hgk
    by_cases hlt : k < n
    · have hkl : k < E.length := by have := HLN.out; omega
      obtain ⟨b, off, rfl, hc0, hc1, hc2⟩ := (HL.out.later hb).ge hkl
      obtain ⟨b', off', rfl, hc0', hc1', hc2'⟩ := (HL'.out.later hb).ge hkl
      generalize E[k] = x at hc0 hc1 hc2 hc0' hc1' hc2'
      obtain ⟨x1, x2, x3⟩ := x
      dsimp only at hc0 hc1 hc2 hc0' hc1' hc2'
      have HB1 := Lib.hid B1
      have HB2 := Lib.hid B2
      obtain ⟨_, ha1, _, _⟩ := B1.two
      obtain ⟨_, hb1, _, _⟩ := B2.two
      clear B1 B2
      have hk0 : (0 : Int) ≤ (k : Int) := by omega
      have hkn : (k : Int) < (n : Int) := by omega
      have hd1' : decide ((k : Int) < (n : Int)) = true := by simp; omega
      have hd2' : decide (k < n) = true := by simp; omega
      go_wp2_with fail
      go_quiet (fail)
      go_wp2_with fail
      go_roundg (n - (k + 1))
      case measure => have := HGK.out; omega
      case rel => exact ⟨k + 1, by go_num, by omega, below_drewN hb _, HB1.out, HB2.out⟩
    · have hd1' : decide ((k : Int) < (n : Int)) = false := by simp; omega
      have hd2' : decide (k < n) = false := by simp; omega
      obtain ⟨_, ha1, _, _⟩ := B1.two
      go_wp2_with fail
      go_ret
      exact ⟨rfl, hb⟩
end Go.Proofs.YtmdbcknlipahgaaDoor
