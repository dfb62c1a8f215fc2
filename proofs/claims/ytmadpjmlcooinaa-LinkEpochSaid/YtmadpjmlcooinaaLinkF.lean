/- link.Acked at an ack of another epoch. -/
import Derived.Test.YtmadpjmlcooinaaLHear
namespace Go.Proofs.Ytmadpjmlcooinaa
open Go.RowKit
set_option maxHeartbeats 2000000 in
set_option maxRecDepth 100000 in
theorem acked_epoch (ep ba n c eq no : Nat) (p : Option Addr) (w : World) (he : ep ≤ 1099511627776) (hba : ba ≤ 1099511627776) (hn : n ≤ 5000) (hne : eq ≠ ep) :
    Calls Try.prog 22 #[sndV ep ba (.slice p n c), ackV eq no] w fun e w' => e = .returned (.tuple #[sndV 0 0 (.slice none 0 0), .int .i64 11]) ∧ Below w.heap.size w w' := by
  have HS := Lib.hid (fun W => sender_ok ep ba n c p W he (by omega) (by omega))
  have hd : ((eq : Int) != (ep : Int)) = true := by simp; omega
  have hd' : ((eq : Int) == (ep : Int)) = false := by simp; omega
  clear hne
  unfold sndV at HS
  unfold sndV ackV
  have B0 := bx_three w [.int .i64 (ep : Int), .int .i64 (ba : Int), .slice p n c] [.int .i64 (eq : Int), .int .i64 (no : Int)] [.int .i64 0, .int .i64 0, .slice none 0 0] 27 46 27
  go_enter Try.func22, Try.ntmps22
  go_wp2_with (go_at_call 36; refine (HS.out _).mono ?_; rintro e w1 ⟨rfl, hb1⟩; obtain ⟨X1, X2, X3, hW, hWs⟩ := B0; have hs1 := hb1.size; have hbb := hW.trans (hb1.mono (by omega)); replace X1 := X1.later hb1 (by omega); replace X2 := X2.later hb1 (by omega); replace X3 := X3.later hb1 (by omega); rw [hWs] at hs1; clear hb1 hW hWs; obtain ⟨hR0, hR1, hR2, hF0, hF1, hF2⟩ := X1.three; obtain ⟨hS0, hS1, _, _⟩ := X2.two; obtain ⟨hT0, hT1, hT2, hG0, hG1, hG2⟩ := X3.three)
  refine bodyPost_ret (v := .tuple #[.agg #[.int .i64 0, .int .i64 0, .slice none 0 0], .int .i64 11]) ?_ rfl ⟨rfl, ?_⟩
  · rw [results_cell_tmp rfl]
    go_simp
  · iterate 3 (refine Below.setCell ?_ (by simp <;> omega) _)
    exact hbb
end Go.Proofs.Ytmadpjmlcooinaa
