/- The walks of board.Open and board.copied. -/
import Derived.Test.YtmadpjmlcooinaaReport
namespace Go.Proofs.Ytmadpjmlcooinaa
open Go.RowKit
theorem zero_board : (Try.prog.info? 56).map (fun i => (i.zero, i.size, i.bytes)) = some (some (.agg #[.int .i64 0, .int .i64 0, .int .i64 0, .slice none 0 0]), 4, 48) := by kernel_rfl
theorem inf_rep : (Try.prog.info? 61).map (fun i => (i.zero, i.size, i.bytes)) = some (some (.agg #[.int .i64 0, .int .i64 0, .int .i64 0, .slice none 0 0, .slice none 0 0, .int .i64 0, .int .i64 0]), 7, 88) := by kernel_rfl
set_option maxHeartbeats 2000000 in
set_option maxRecDepth 100000 in
theorem bopen_ok (W : Nat) (w : World) (h1 : 1 ≤ W) (h2 : W ≤ 8) :
    Calls Try.prog 39 #[.int .i64 (W : Int), .int .i64 2, .int .i64 3] w fun e w' => e = .returned (.tuple #[.agg #[.int .i64 (W : Int), .int .i64 2, .int .i64 3, .slice none 0 0], .int .i64 0]) ∧ Below w.heap.size w w' := by
  have hd1 : decide ((W : Int) < 1) = false := by simp; omega
  have hd2 : decide ((8 : Int) < (W : Int)) = false := by simp; omega
  go_enter Try.func39, Try.ntmps39
  go_wp2_with fail
  refine bodyPost_ret (v := .tuple #[.agg #[.int .i64 (W : Int), .int .i64 2, .int .i64 3, .slice none 0 0], .int .i64 0]) ?_ rfl ⟨rfl, ?_⟩
  · rw [results_cell_tmp rfl]
    go_simp
  · first | exact (Below.refl _ w).alloc (Nat.le_refl _) _ | (iterate 4 (refine Below.setCell ?_ (by simp <;> omega) _); exact (Below.refl _ w).alloc (Nat.le_refl _) _)
set_option maxHeartbeats 4000000 in
set_option maxRecDepth 100000 in
theorem copied_ok (r : Rp) (s g : Value) (w : World) (hv : RpV w r s g) (h1 : r.sent.length ≤ 100) (h2 : r.got.length ≤ 100) :
    Calls Try.prog 42 #[.agg (rpC r s g).toArray] w fun e w' => ∃ s' g', e = .returned (.agg (rpC r s' g').toArray) ∧ w'.ownsRow w.heap.size 3 1 s' r.sent.length (nts r.sent) ∧ w'.ownsRow w.heap.size 3 1 g' r.got.length (nts r.got) ∧ Below w.heap.size w w' := by
  obtain ⟨wk, ep, st, sent, got, wa, op⟩ := r
  obtain ⟨hv1, hv2⟩ := hv
  dsimp only at h1 h2 hv1 hv2 ⊢
  have hpc : ∃ p c, s = .slice p sent.length c := by obtain ⟨p, c, hp, _⟩ := hv1; exact ⟨p, c, hp⟩
  have hqc : ∃ p c, g = .slice p got.length c := by obtain ⟨p, c, hp, _⟩ := hv2; exact ⟨p, c, hp⟩
  obtain ⟨p, c, rfl⟩ := hpc
  obtain ⟨q, d, rfl⟩ := hqc
  unfold rpC
  dsimp only
  obtain ⟨b1, B1, z1⟩ := boxed0 w [.int .i64 (wk : Int), .int .i64 (ep : Int), .int .i64 (st : Int), .slice p sent.length c, .slice q got.length d, .int .i64 (wa : Int), .int .i64 (op : Int)] 61
  obtain ⟨b2, B2, z2⟩ := boxed0 (w.alloc (.cells #[.int .i64 (wk : Int), .int .i64 (ep : Int), .int .i64 (st : Int), .slice p sent.length c, .slice q got.length d, .int .i64 (wa : Int), .int .i64 (op : Int)] 61)) [.int .i64 0, .int .i64 0, .int .i64 0, .slice none 0 0, .slice none 0 0, .int .i64 0, .int .i64 0] 61
  have hbw := b1.trans (b2.mono (by omega))
  have X1 := B1.next b2
  have e1 : (w.alloc (.cells #[.int .i64 (wk : Int), .int .i64 (ep : Int), .int .i64 (st : Int), .slice p sent.length c, .slice q got.length d, .int .i64 (wa : Int), .int .i64 (op : Int)] 61)).heap.size = w.heap.size + 1 := by simp
  rw [e1] at B2 z2
  obtain ⟨⟨hx0, hx1, hx2, hx3, hx4, hx5, hx6⟩, _⟩ := X1.seven
  have HV1 := Lib.hid hv1
  have HV2 := Lib.hid hv2
  clear b1 b2 B1 e1 hv1 hv2 z1
  go_enter Try.func42, Try.ntmps42
  go_upto_region 1 with fail
  generalize ((w.alloc (.cells #[.int .i64 (wk : Int), .int .i64 (ep : Int), .int .i64 (st : Int), .slice p sent.length c, .slice q got.length d, .int .i64 (wa : Int), .int .i64 (op : Int)] 61)).alloc (.cells #[.int .i64 0, .int .i64 0, .int .i64 0, .slice none 0 0, .slice none 0 0, .int .i64 0, .int .i64 0] 61)) = W2 at *
  go_wp2_with (first
    | (at_builtin; refine wp_app0 rfl _ (.tmp 4) _ rfl 3 rfl inf_int rfl (by decide) rfl rfl (HV1.out.later hbw) (nts_one _) (by unfold maxLen; omega) (by omega) ?_; intro p3 c3 w3 ho3 hb3; have hz3 := hb3.size; have X3 := X1.later hb3 (by omega); have Z3 := B2.later hb3 (by omega); obtain ⟨_, ⟨_, _, _, hf3, _, _, _⟩⟩ := X3.seven; have Y1 : Bx (w3.setCell ⟨w.heap.size, 3, none⟩ (.slice p3 sent.length c3)) w.heap.size [.int .i64 (wk : Int), .int .i64 (ep : Int), .int .i64 (st : Int), .slice p3 sent.length c3, .slice q got.length d, .int .i64 (wa : Int), .int .i64 (op : Int)] := X3.setc 3 (.slice p3 sent.length c3); have hbw3 := (hbw.trans (hb3.mono (by omega))).setCell (p := ⟨w.heap.size, 3, none⟩) (Nat.le_refl _) (.slice p3 sent.length c3); obtain ⟨⟨hq0, hq1, hq2, hq3, hq4, hq5, hq6⟩, _⟩ := Y1.seven)
    | (at_builtin; refine wp_app0 rfl _ (.tmp 8) _ rfl 3 rfl inf_int rfl (by decide) rfl rfl (HV2.out.later hbw3) (nts_one _) (by unfold maxLen; omega) (by omega) ?_; intro p4 c4 w4 ho4 hb4; have hz4 := hb4.size; have X4 := Y1.later hb4 (by simp; omega); have Z4 := (bx_oth Z3 (a := ⟨w.heap.size, 3, none⟩) (by simp) (.slice p3 sent.length c3)).later hb4 (by simp; omega); obtain ⟨_, ⟨_, _, _, _, hf4, _, _⟩⟩ := X4.seven; have Y4 : Bx (w4.setCell ⟨w.heap.size, 4, none⟩ (.slice p4 got.length c4)) w.heap.size [.int .i64 (wk : Int), .int .i64 (ep : Int), .int .i64 (st : Int), .slice p3 sent.length c3, .slice p4 got.length c4, .int .i64 (wa : Int), .int .i64 (op : Int)] := X4.setc 4 (.slice p4 got.length c4); have hbw4 := (hbw3.trans (hb4.mono (by simp; omega))).setCell (p := ⟨w.heap.size, 4, none⟩) (Nat.le_refl _) (.slice p4 got.length c4); obtain ⟨⟨hr0, hr1, hr2, hr3, hr4, hr5, hr6⟩, _⟩ := Y4.seven; have Z5 := bx_oth Z4 (a := ⟨w.heap.size, 4, none⟩) (by simp) (.slice p4 got.length c4); obtain ⟨_, ⟨hg0, hg1, hg2, hg3, hg4, hg5, hg6⟩⟩ := Z5.seven))
  have ho3' := own_setCell ho3 (a := ⟨w.heap.size, 3, none⟩) (by simp; omega) (.slice p3 sent.length c3)
  have ho3'' := own_later ho3' hb4
  have ho4' := own_mono (base' := W2.heap.size) ho4 (by simp; omega)
  refine bodyPost_ret (v := .agg #[.int .i64 (wk : Int), .int .i64 (ep : Int), .int .i64 (st : Int), .slice p3 sent.length c3, .slice p4 got.length c4, .int .i64 (wa : Int), .int .i64 (op : Int)]) ?_ rfl ⟨.slice p3 sent.length c3, .slice p4 got.length c4, rfl, ?_, ?_, ?_⟩
  · rw [results_cell1 rfl]
    go_simp
  · refine own_mono (base := W2.heap.size) ?_ (by omega)
    iterate 8 (refine own_setCell ?_ (by simp <;> omega) _)
    exact ho3''
  · refine own_mono (base := W2.heap.size) ?_ (by omega)
    iterate 8 (refine own_setCell ?_ (by simp <;> omega) _)
    exact ho4'
  · iterate 7 (refine Below.setCell ?_ (by simp <;> omega) _)
    exact hbw4
end Go.Proofs.Ytmadpjmlcooinaa
