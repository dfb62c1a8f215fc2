/- The walk of board.Hear at reports that are refused. -/
import Derived.Test.YtmadpjmlcooinaaHear
namespace Go.Proofs.Ytmadpjmlcooinaa
open Go.RowKit
set_option maxHeartbeats 16000000 in
set_option maxRecDepth 100000 in
theorem hear_epoch (W c : Nat) (p : Option Addr) (rs : List Rp) (r : Rp) (s g : Value) (w : World) (h : IsBd w (.slice p rs.length c) rs) (hB : BdOk W rs) (hrk : RpOk W r) (he : r.ep ≤ 1000) (hst : r.st ≤ 1000) (hn23 : ¬ (r.ep = 2 ∧ r.st = 3)) (hv : RpV w r s g) (hW1 : 1 ≤ W) (hW : W ≤ 8) :
    Calls Try.prog 24 #[.agg #[.int .i64 (W : Int), .int .i64 2, .int .i64 3, .slice p rs.length c], .agg (rpC r s g).toArray] w fun e w' => e = .returned (.tuple #[.agg #[.int .i64 0, .int .i64 0, .int .i64 0, .slice none 0 0], .int .i64 11]) ∧ Below w.heap.size w w' := by
  have hval := h.val
  obtain ⟨p', c', hpe, hcc1, hcc2⟩ := hval
  cases hpe
  have hn8 := hB.len
  have HRD := Lib.hid (fun W' (hb : Below w.heap.size w W') => bread_ok W c p rs W' (h.later hb) hB hW1 hW)
  have hE : rpE r = 11 := by unfold rpE; rw [if_neg hn23]
  have HRP := Lib.hid (fun W' (hb : Below w.heap.size w W') => report_ok W r (.slice p rs.length c) s g W' hrk (hv.later hb) he hst)
  rw [hE] at HRP
  have HL := Lib.hid h
  have HB := Lib.hid hB
  clear h hB hE hv hrk
  obtain ⟨n, hn⟩ : ∃ n, n = rs.length := ⟨_, rfl⟩
  rw [← hn] at hcc1 hn8 HL HRD HRP ⊢
  have HN := Lib.hid hn
  clear hn
  unfold rpC at HRP ⊢
  obtain ⟨b1, B1, z1⟩ := boxed0 w [.int .i64 (W : Int), .int .i64 2, .int .i64 3, .slice p n c] 56
  obtain ⟨b2, B2, z2⟩ := boxed0 (w.alloc (.cells #[.int .i64 (W : Int), .int .i64 2, .int .i64 3, .slice p n c] 56)) [.int .i64 (r.wk : Int), .int .i64 (r.ep : Int), .int .i64 (r.st : Int), s, g, .int .i64 (r.wa : Int), .int .i64 (r.op : Int)] 61
  have e1 : (w.alloc (.cells #[.int .i64 (W : Int), .int .i64 2, .int .i64 3, .slice p n c] 56)).heap.size = w.heap.size + 1 := by simp
  obtain ⟨b3, B3, z3⟩ := boxed0 ((w.alloc (.cells #[.int .i64 (W : Int), .int .i64 2, .int .i64 3, .slice p n c] 56)).alloc (.cells #[.int .i64 (r.wk : Int), .int .i64 (r.ep : Int), .int .i64 (r.st : Int), s, g, .int .i64 (r.wa : Int), .int .i64 (r.op : Int)] 61)) [.int .i64 0, .int .i64 0, .int .i64 0, .slice none 0 0] 56
  have e2 : ((w.alloc (.cells #[.int .i64 (W : Int), .int .i64 2, .int .i64 3, .slice p n c] 56)).alloc (.cells #[.int .i64 (r.wk : Int), .int .i64 (r.ep : Int), .int .i64 (r.st : Int), s, g, .int .i64 (r.wa : Int), .int .i64 (r.op : Int)] 61)).heap.size = w.heap.size + 1 + 1 := by simp
  have X1 := (B1.next b2).next b3
  have X2 := B2.next b3
  have hbw := (b1.trans (b2.mono (by omega))).trans (b3.mono (by omega))
  rw [e1] at X2
  rw [e2] at B3 z3
  obtain ⟨hx0, hx1, hx2, hx3, _, _, _, _⟩ := X1.four
  clear b1 b2 b3 B1 B2 z1 z2 e1 e2
  go_enter Try.func24, Try.ntmps24
  go_wp2_with fail
  refine (HRD.out _ hbw).mono ?_; rintro e w1 ⟨gy, bb, bo, ps, hpb, rfl, hoy, hby, hb1⟩
  clear hx0 hx1 hx2 hx3
  have Y1 := X1.next hb1
  have Y2 := X2.next hb1
  have Y3 := B3.next hb1
  have hw1 := hbw.trans (hb1.mono hbw.size)
  have hz1 := hb1.size
  have HBY := Lib.hid hby
  have HOY := Lib.hid hoy
  clear X1 X2 B3 hbw hb1 hby hoy hpb
  have hz1' : w.heap.size + 1 + 1 + 1 ≤ w1.heap.size := by omega
  clear z3 hz1
  generalize (((w.alloc (.cells #[.int .i64 (W : Int), .int .i64 2, .int .i64 3, .slice p n c] 56)).alloc (.cells #[.int .i64 (r.wk : Int), .int .i64 (r.ep : Int), .int .i64 (r.st : Int), s, g, .int .i64 (r.wa : Int), .int .i64 (r.op : Int)] 61)).alloc (.cells #[.int .i64 0, .int .i64 0, .int .i64 0, .slice none 0 0] 56)) = W0 at *
  obtain ⟨hx0, hx1, hx2, hx3, _, _, _, _⟩ := Y1.four
  obtain ⟨⟨hy0, hy1, hy2, hy3, hy4, hy5, hy6⟩, _⟩ := Y2.seven
  go_wp2_with fail
  refine (HRP.out _ hw1).mono ?_; rintro e w5 ⟨rfl, hb5⟩
  clear hx0 hx1 hx2 hx3 hy0 hy1 hy2 hy3 hy4 hy5 hy6
  have hw5 := hw1.trans (hb5.mono hw1.size)
  have hz5 := hb5.size
  have Z1 := Lib.hid (Y1.next hb5)
  have Z2 := Lib.hid (Y2.next hb5)
  have Z3 := Lib.hid (Y3.next hb5)
  clear Y1 Y2 Y3 hb5 hw1
  obtain ⟨_, _, _, _, hf0, hf1, hf2, hf3⟩ := Z3.out.four
  go_wp2_with fail
  refine bodyPost_ret (v := .tuple #[.agg #[.int .i64 0, .int .i64 0, .int .i64 0, .slice none 0 0], .int .i64 11]) ?_ rfl ⟨rfl, ?_⟩
  · rw [results_cell_tmp rfl]
    go_simp
  · iterate 4 (refine Below.setCell ?_ (by simp <;> omega) _)
    exact hw5
set_option maxHeartbeats 16000000 in
set_option maxRecDepth 100000 in
theorem hear_twice (W c : Nat) (p : Option Addr) (rs : List Rp) (r : Rp) (s g : Value) (w : World) (h : IsBd w (.slice p rs.length c) rs) (hB : BdOk W rs) (hr : RpNow W r) (hold : ∃ (j : Nat) (x : Rp), rs[j]? = some x ∧ x.wk = r.wk) (hv : RpV w r s g) (hW1 : 1 ≤ W) (hW : W ≤ 8) :
    Calls Try.prog 24 #[.agg #[.int .i64 (W : Int), .int .i64 2, .int .i64 3, .slice p rs.length c], .agg (rpC r s g).toArray] w fun e w' => e = .returned (.tuple #[.agg #[.int .i64 0, .int .i64 0, .int .i64 0, .slice none 0 0], .int .i64 8]) ∧ Below w.heap.size w w' := by
  obtain ⟨hrk, hep, hst⟩ := hr
  have hval := h.val
  obtain ⟨p', c', hpe, hcc1, hcc2⟩ := hval
  cases hpe
  have hn8 := hB.len
  have HRD := Lib.hid (fun W' (hb : Below w.heap.size w W') => bread_ok W c p rs W' (h.later hb) hB hW1 hW)
  have hE : rpE r = 0 := by unfold rpE; rw [if_pos ⟨hep, hst⟩]
  have HRP := Lib.hid (fun W' (hb : Below w.heap.size w W') => report_ok W r (.slice p rs.length c) s g W' hrk (hv.later hb) (by omega) (by omega))
  rw [hE] at HRP
  have HL := Lib.hid h
  have HB := Lib.hid hB
  have hwkW := hrk.wk
  have HOLD := Lib.hid hold
  clear h hB hE hv hold hrk
  obtain ⟨n, hn⟩ : ∃ n, n = rs.length := ⟨_, rfl⟩
  rw [← hn] at hcc1 hn8 HL HRD HRP ⊢
  have HN := Lib.hid hn
  clear hn
  have HEP := Lib.hid hep
  have HST := Lib.hid hst
  clear hep hst
  unfold rpC at HRP ⊢
  obtain ⟨b1, B1, z1⟩ := boxed0 w [.int .i64 (W : Int), .int .i64 2, .int .i64 3, .slice p n c] 56
  obtain ⟨b2, B2, z2⟩ := boxed0 (w.alloc (.cells #[.int .i64 (W : Int), .int .i64 2, .int .i64 3, .slice p n c] 56)) [.int .i64 (r.wk : Int), .int .i64 (r.ep : Int), .int .i64 (r.st : Int), s, g, .int .i64 (r.wa : Int), .int .i64 (r.op : Int)] 61
  have e1 : (w.alloc (.cells #[.int .i64 (W : Int), .int .i64 2, .int .i64 3, .slice p n c] 56)).heap.size = w.heap.size + 1 := by simp
  obtain ⟨b3, B3, z3⟩ := boxed0 ((w.alloc (.cells #[.int .i64 (W : Int), .int .i64 2, .int .i64 3, .slice p n c] 56)).alloc (.cells #[.int .i64 (r.wk : Int), .int .i64 (r.ep : Int), .int .i64 (r.st : Int), s, g, .int .i64 (r.wa : Int), .int .i64 (r.op : Int)] 61)) [.int .i64 0, .int .i64 0, .int .i64 0, .slice none 0 0] 56
  have e2 : ((w.alloc (.cells #[.int .i64 (W : Int), .int .i64 2, .int .i64 3, .slice p n c] 56)).alloc (.cells #[.int .i64 (r.wk : Int), .int .i64 (r.ep : Int), .int .i64 (r.st : Int), s, g, .int .i64 (r.wa : Int), .int .i64 (r.op : Int)] 61)).heap.size = w.heap.size + 1 + 1 := by simp
  have X1 := (B1.next b2).next b3
  have X2 := B2.next b3
  have hbw := (b1.trans (b2.mono (by omega))).trans (b3.mono (by omega))
  rw [e1] at X2
  rw [e2] at B3 z3
  obtain ⟨hx0, hx1, hx2, hx3, _, _, _, _⟩ := X1.four
  clear b1 b2 b3 B1 B2 z1 z2 e1 e2
  go_enter Try.func24, Try.ntmps24
  go_wp2_with fail
  refine (HRD.out _ hbw).mono ?_; rintro e w1 ⟨gy, bb, bo, ps, hpb, rfl, hoy, hby, hb1⟩
  clear hx0 hx1 hx2 hx3
  have Y1 := X1.next hb1
  have Y2 := X2.next hb1
  have Y3 := B3.next hb1
  have hw1 := hbw.trans (hb1.mono hbw.size)
  have hz1 := hb1.size
  have HBY := Lib.hid hby
  have HOY := Lib.hid hoy
  clear X1 X2 B3 hbw hb1 hby hoy hpb
  have hz1' : w.heap.size + 1 + 1 + 1 ≤ w1.heap.size := by omega
  clear z3 hz1
  generalize (((w.alloc (.cells #[.int .i64 (W : Int), .int .i64 2, .int .i64 3, .slice p n c] 56)).alloc (.cells #[.int .i64 (r.wk : Int), .int .i64 (r.ep : Int), .int .i64 (r.st : Int), s, g, .int .i64 (r.wa : Int), .int .i64 (r.op : Int)] 61)).alloc (.cells #[.int .i64 0, .int .i64 0, .int .i64 0, .slice none 0 0] 56)) = W0 at *
  obtain ⟨hx0, hx1, hx2, hx3, _, _, _, _⟩ := Y1.four
  obtain ⟨⟨hy0, hy1, hy2, hy3, hy4, hy5, hy6⟩, _⟩ := Y2.seven
  go_wp2_with fail
  refine (HRP.out _ hw1).mono ?_; rintro e w5 ⟨rfl, hb5⟩
  clear hx0 hx1 hx2 hx3 hy0 hy1 hy2 hy3 hy4 hy5 hy6
  have hw5 := hw1.trans (hb5.mono hw1.size)
  have hz5 := hb5.size
  have Z1 := Lib.hid (Y1.next hb5)
  have Z2 := Lib.hid (Y2.next hb5)
  have Z3 := Lib.hid (Y3.next hb5)
  have hoy5 := own_later HOY.out hb5
  have hcy := hoy5.cellAt r.wk (by omega)
  obtain ⟨j, x, hj, hxr⟩ := HOLD.out
  rw [← hxr, HBY.out.hit j x hj, hxr] at hcy
  clear hj hxr
  clear Y1 Y2 Y3 hb5 hoy5 hw1
  obtain ⟨hx0, hx1, hx2, hx3, _, _, _, _⟩ := Z1.out.four
  obtain ⟨⟨hy0, hy1, hy2, hy3, hy4, hy5, hy6⟩, _⟩ := Z2.out.seven
  have hwk0 : (0 : Int) ≤ (r.wk : Int) := by omega
  have hwkW' : (r.wk : Int) < (W : Int) := by omega
  obtain ⟨_, _, _, _, hf0, hf1, hf2, hf3⟩ := Z3.out.four
  go_wp2_with fail
  refine bodyPost_ret (v := .tuple #[.agg #[.int .i64 0, .int .i64 0, .int .i64 0, .slice none 0 0], .int .i64 8]) ?_ rfl ⟨rfl, ?_⟩
  · rw [results_cell_tmp rfl]
    go_simp
  · iterate 4 (refine Below.setCell ?_ (by simp <;> omega) _)
    exact hw5
end Go.Proofs.Ytmadpjmlcooinaa
