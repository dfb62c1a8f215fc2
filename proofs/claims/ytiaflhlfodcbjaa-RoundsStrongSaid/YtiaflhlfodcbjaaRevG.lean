/- The walk of graph.Reverse. -/
import Derived.Test.YtiaflhlfodcbjaaSfE
namespace Go.Proofs.Ytiaflhlfodcbjaa
open Go.RowKit
theorem revL_take_succ {E : List Eg} {k : Nat} (h : k < E.length) : revL (E.take (k + 1)) = revL (E.take k) ++ [flipE E[k]] := by
  unfold revL
  rw [List.take_succ_eq_append_getElem h, List.map_append]; rfl
set_option maxHeartbeats 4000000 in
set_option maxRecDepth 100000 in
theorem reverseG_ok (N n c : Nat) (p : Option Addr) (E : List Eg) (w : World) (h : Sl w 3 (.slice p n c) n (ecs E)) (hG : InG N E) (hN : N ≤ 200) (hn : n ≤ 600) :
    Calls Try.prog 37 #[.agg #[.int .i64 (N : Int), .slice p n c]] w fun e w' => ∃ p' c', e = .returned (.tuple #[.agg #[.int .i64 (N : Int), .slice p' n c'], .int .i64 0]) ∧ w'.ownsRow w.heap.size 46 3 (.slice p' n c') n (ecs (srt cfE (revL E))) ∧ Below w.heap.size w w' := by
  have HCH := Lib.hid (fun (W : World) (h' : Below w.heap.size w W) => check_ok N n c p E W (h.later h') hG hN hn)
  obtain ⟨hln, hnc, hc63⟩ := h.elen
  have HL := Lib.hid h
  have HLN := Lib.hid hln
  have HG := Lib.hid hG
  clear h hG hln
  have B1 := (bx_new w [.int .i64 (N : Int), .slice p n c] 25).alloc (.cells #[.int .i64 0, .slice none 0 0] 25)
  have B2 := bx_new (w.alloc (.cells #[.int .i64 (N : Int), .slice p n c] 25)) [.int .i64 0, .slice none 0 0] 25
  rw [show (w.alloc (.cells #[.int .i64 (N : Int), .slice p n c] 25)).heap.size = w.heap.size + 1 from by simp] at B2
  have hW := ((Below.refl w.heap.size w).alloc (Nat.le_refl _) (.cells #[.int .i64 (N : Int), .slice p n c] 25)).alloc (by simp) (.cells #[.int .i64 0, .slice none 0 0] 25)
  have hsz : ((w.alloc (.cells #[.int .i64 (N : Int), .slice p n c] 25)).alloc (.cells #[.int .i64 0, .slice none 0 0] 25)).heap.size = w.heap.size + 2 := by simp
  have HB1 := Lib.hid B1
  have HB2 := Lib.hid B2
  have HSZ := Lib.hid hsz
  obtain ⟨ha0, ha1, _, _⟩ := B1.two
  clear B1 B2 hsz
  go_enter Try.func37, Try.ntmps37
  go_wp2_with fail
  refine (HCH.out _ hW).mono ?_; rintro e w1 ⟨rfl, hb1⟩
  have hs1 := hb1.size
  have hw1 := hW.trans (hb1.mono (by rw [HSZ.out]; omega))
  have X1 := HB1.out.later hb1 (by rw [HSZ.out]; omega)
  have X2 := HB2.out.later hb1 (by rw [HSZ.out]; omega)
  rw [HSZ.out] at hs1
  clear hb1 hW ha0 ha1
  generalize ((w.alloc (.cells #[.int .i64 (N : Int), .slice p n c] 25)).alloc (.cells #[.int .i64 0, .slice none 0 0] 25)) = W0 at *
  have HX1 := Lib.hid X1
  have HX2 := Lib.hid X2
  obtain ⟨ha0, ha1, _, _⟩ := X1.two
  clear X1 X2
  go_wp2_with fail
  clear ha0 ha1
  go_loopg [5, 17] n (fun gk v5 v17 wr => ∃ (k : Nat) (p' : Option Addr) (c' : Nat), v17 = .int .i64 (k : Int) ∧ k + gk = n ∧ v5 = .slice p' k c' ∧ wr.ownsRow w1.heap.size 46 3 (.slice p' k c') k (ecs (revL (E.take k))) ∧ Below w1.heap.size w1 wr)
  case atStart => exact ⟨0, none, 0, rfl, by omega, rfl, World.ownsRow_nil _ _ _ _, Below.refl _ _⟩
  case round =>
    obtain ⟨k, p', c', rfl, hgk, rfl, hown, hb⟩ := hrel
    have HGK := Lib.hid hgk
    have hk : k ≤ n := by omega
    clear hgk
    have hsz := hb.size
    by_cases hlt : k < n
    · have hkl : k < E.length := by have := HLN.out; omega
      have hrv := Lib.hid (revL_take_succ hkl)
      obtain ⟨b, off, rfl, hc0, hc1, hc2⟩ := (HL.out.later (hw1.trans (hb.mono hw1.size))).edge hkl
      generalize E[k] = x at hrv hc0 hc1 hc2
      obtain ⟨x1, x2, x3⟩ := x
      dsimp only at hc0 hc1 hc2
      have hk0 : (0 : Int) ≤ (k : Int) := by omega
      have hkn : (k : Int) < (n : Int) := by omega
      have hd1' : decide ((k : Int) < (n : Int)) = true := by simp; omega
      have hd2' : decide (k < n) = true := by simp; omega
      go_wp2_with (at_builtin; refine wp_app1h (w0 := w1) rfl (.tmp 21) (.tmp 29) _ rfl w1.heap.size 46 rfl inf_edge rfl (by decide) rfl (hown.alloc _) (us := [.int .i64 (x2 : Int), .int .i64 (x1 : Int), .int .i64 (x3 : Int)]) rfl (by simp) rfl (by simp [Value.oneCell']) (by unfold maxLen; omega) (by omega) (hb.alloc hsz _) (by simp; omega) ?_; intro p3 c3 w3 hown3 hb3 hs3 hg3 _)
      have hown2 : w3.ownsRow w1.heap.size 46 3 (.slice p3 (k + 1) c3) (k + 1) (ecs (revL (E.take (k + 1)))) := by
        rw [hrv.out, ecs_snoc]; exact hown3
      clear hown3
      go_wp2_with fail
      go_roundg (n - (k + 1))
      case measure => have := HGK.out; omega
      case rel => exact ⟨k + 1, p3, c3, by go_num, by omega, rfl, hown2, hb3⟩
    · obtain rfl : k = n := by omega
      have hd1' : decide ((k : Int) < (k : Int)) = false := by simp
      rw [List.take_of_length_le (by have := HLN.out; omega)] at hown
      have hw2 := hw1.trans (hb.mono hw1.size)
      have Y1 := HX1.out.later hb HX1.out.lt
      have Y2 := HX2.out.later hb HX2.out.lt
      obtain ⟨ha0, ha1, _, _⟩ := Y1.two
      go_wp2_with fail
      clear ha0 ha1
      refine (sortedG_ok N k c' p' (revL E) wr (Sl.of_own hown) HG.out.rev hN hn).mono ?_; rintro e w3 ⟨p3, c3, rfl, ho3, hb3⟩
      have hs3 := hb3.size
      have hw3 := hw2.trans (hb3.mono (by omega))
      have Z2 := Y2.later hb3 Y2.lt
      obtain ⟨hr0, hr1, hf0, hf1⟩ := Z2.two
      clear Y1 Y2 Z2
      go_wp2_with fail
      refine bodyPost_ret (v := .tuple #[.agg #[.int .i64 (N : Int), .slice p3 k c3], .int .i64 0]) ?_ rfl ⟨p3, c3, rfl, ?_, ?_⟩
      · rw [results_cell_tmp rfl]
        go_simp
      · refine own_mono (base := wr.heap.size) ?_ (by omega)
        iterate 2 (refine own_setCell ?_ (by simp <;> omega) _)
        exact ho3
      · iterate 2 (refine Below.setCell ?_ (by simp <;> omega) _)
        exact hw3
end Go.Proofs.Ytiaflhlfodcbjaa
