/- The walks of link.Send, link.Due and link.Acked. -/
import Derived.Test.YtmadpjmlcooinaaLinkB
import Derived.Test.YtmadpjmlcooinaaPosts
import Derived.Deep.RegionLaw
namespace Go.Proofs.Ytmadpjmlcooinaa
open Go.RowKit
set_option maxHeartbeats 2000000 in
set_option maxRecDepth 100000 in
theorem send_ok (ep n c : Nat) (p : Option Addr) (l : List (Nat × Nat)) (m : Nat × Nat) (w : World) (he : ep ≤ 1099511627776) (hn : n < 5000) (hl : Sl w 2 (.slice p n c) n (mcs l)) :
    Calls Try.prog 19 #[sndV ep 0 (.slice p n c), mlV m] w fun e w' => ∃ p' c', e = .returned (.tuple #[sndV ep 0 (.slice p' (n + 1) c'), .int .i64 0]) ∧ w'.ownsRow w.heap.size 41 2 (.slice p' (n + 1) c') (n + 1) (mcs (l ++ [m])) ∧ Below w.heap.size w w' := by
  have HS := Lib.hid (fun W => sender_ok ep 0 n c p W he (by omega) (by omega))
  have HL := Lib.hid hl
  clear hl
  have hne : ((n : Int) == 5000) = false := by simp; omega
  unfold sndV at HS
  unfold sndV mlV
  rw [show ((0 : Nat) : Int) = 0 from rfl] at HS ⊢
  go_enter Try.func19, Try.ntmps19
  have B0 := bx_three w [.int .i64 (ep : Int), .int .i64 0, .slice p n c] [.int .i64 (m.1 : Int), .int .i64 (m.2 : Int)] [.int .i64 0, .int .i64 0, .slice none 0 0] 27 41 27
  have hc1 := mcs_one l
  go_wp2_with (go_at_call 36; refine (HS.out _).mono ?_; rintro e w1 ⟨rfl, hb1⟩; obtain ⟨X1, X2, X3, hW, hWs⟩ := B0; have hs1 := hb1.size; have hbb := hW.trans (hb1.mono (by omega)); replace X1 := X1.later hb1 (by omega); replace X2 := X2.later hb1 (by omega); replace X3 := X3.later hb1 (by omega); rw [hWs] at hs1; clear hb1 hW hWs; obtain ⟨hR0, hR1, hR2, hF0, hF1, hF2⟩ := X1.three; obtain ⟨hS0, hS1, _, _⟩ := X2.two)
  have HCL := Lib.hid (fun (W : World) (h : Below w.heap.size w W) => clone_ok n c p (mcs l) W (HL.out.later h) hc1 (by omega))
  have hml : ∀ u ∈ [Value.int .i64 (m.1 : Int), Value.int .i64 (m.2 : Int)], u.oneCell' = true := by simp [Value.oneCell']
  obtain ⟨_, _, hRa, _⟩ := (X1.alloc (.cells #[.int .i64 (m.1 : Int), .int .i64 (m.2 : Int)] 41)).three
  go_region_law
    (first
      | (rw [if_pos (by rfl)]; go_simp; go_at_call 37; refine (HCL.out _ (Below.drew hbb)).mono ?_; rintro e w2 ⟨p2, c2, rfl, hown', hb2⟩; have hown := own_mono (base' := w1.heap.size) hown' (by simp); have hc2 : Below w1.heap.size w1 w2 := below_undrew hb2; have hs2 := hc2.size; obtain ⟨hy0, hy1, _, _⟩ := (X2.later hc2 X2.lt).two; dsimp only)
      | (rw [if_pos (by rfl)]; go_simp; go_at_call 37; refine (HCL.out _ (Below.drew (hbb.alloc (by omega) _))).mono ?_; rintro e w2 ⟨p2, c2, rfl, hown', hb2⟩; have hown := own_mono (base' := w1.heap.size) hown' (by simp); have hc2 : Below w1.heap.size w1 w2 := ((Below.refl _ w1).alloc (Nat.le_refl _) _).drew.trans (hb2.mono (by simp)); have hs2 := hc2.size; obtain ⟨hy0, hy1, _, _⟩ := (X2.later hc2 X2.lt).two; dsimp only)
      | (refine step_app (w0 := w1) rfl _ _ _ rfl w1.heap.size 41 rfl inf_mail rfl (by decide) rfl (hown.alloc _) rfl (news := [.int .i64 (m.1 : Int), .int .i64 (m.2 : Int)]) (sl_new w2 [Value.int .i64 (m.1 : Int), Value.int .i64 (m.2 : Int)] 41) hml (by unfold maxLen; omega) (by omega) (hc2.alloc hs2 _) (by simp; omega) ?_; intro p3 c3 w3 hown3 hb3 hs3 _ _; obtain ⟨hz0, hz1, hz2, hk0, hk1, hk2⟩ := (X1.later hb3 X1.lt).three; obtain ⟨hx0, hx1, hx2, hj0, hj1, hj2⟩ := (X3.later hb3 X3.lt).three)
      | (refine step_app (w0 := w1) rfl _ _ _ rfl w1.heap.size 41 rfl inf_mail rfl (by decide) rfl (hown) rfl (news := [.int .i64 (m.1 : Int), .int .i64 (m.2 : Int)]) ((sl_new w1 [Value.int .i64 (m.1 : Int), Value.int .i64 (m.2 : Int)] 41).drew.later hb2) hml (by unfold maxLen; omega) (by omega) (hc2) (hs2) ?_; intro p3 c3 w3 hown3 hb3 hs3 _ _; obtain ⟨hz0, hz1, hz2, hk0, hk1, hk2⟩ := (X1.later hb3 X1.lt).three; obtain ⟨hx0, hx1, hx2, hj0, hj1, hj2⟩ := (X3.later hb3 X3.lt).three))
  all_goals
    go_wp2_with fail
    rw [mcs_snoc]
    refine bodyPost_ret (v := .tuple #[sndV ep 0 (.slice p3 (n + 1) c3), .int .i64 0]) ?_ rfl ⟨p3, c3, rfl, ?_, ?_⟩
    · rw [results_cell_tmp rfl]
      unfold sndV
      go_simp
    · refine own_mono (base := w1.heap.size) ?_ (by omega)
      iterate 4 (refine own_setCell ?_ (by simp <;> omega) _)
      exact hown3
    · iterate 4 (refine Below.setCell ?_ (by simp <;> omega) _)
      exact hbb.trans (hb3.mono (by omega))
end Go.Proofs.Ytmadpjmlcooinaa
