/- The walk of ckpt.Put, where the file is there. -/
import Derived.Test.YtmdbcknlipahgaaDoorCkPut
namespace Go.Proofs.YtmdbcknlipahgaaDoor
open Go.RowKit Go.Sort Go.Proofs
set_option maxHeartbeats 4000000 in
set_option maxRecDepth 100000 in
theorem ckput_hit (v dv : Value) (s : Sv) (l : List (Fl × Value)) (w : World) (hv : IsSv w v s) (hok : SvOk s) (hle : (encL s).length ≤ 400) (hR : RDk w 0 dv l) (hD : DkOk (l.map (·.1))) (hi : ixF (l.map (·.1)) nxN < l.length) :
    Calls Tryd.prog 21 #[.agg #[dv], v] w fun e w' => ∃ p c l', e = .returned (.tuple #[.agg #[.slice p l'.length c], .int .i64 0]) ∧ Hid (l'.map (·.1) = apF (rmF (l.map (·.1)) nxN) nxN (wrapL (encL s))) ∧ RDk w' w.heap.size (.slice p l'.length c) l' ∧ Below w.heap.size w w' := by
  have hwl : (wrapL (encL s)).length ≤ 1000 := by
    rw [wrapL_len]
    have := put_len_le 1 (encL s).length (by omega)
    omega
  have HEN := Lib.hid (fun (W : World) (hW : Below w.heap.size w W) => encode_ok v s W (hv.later hW) hok (by omega))
  have HRM := Lib.hid (fun (W : World) (hW : Below w.heap.size w W) => remove_hit nxN dv l W (hR.later hW) hD hi)
  have HAP := Lib.hid (fun (b : List Nat) (q : Option Addr) (d : Nat) (v2 : Value) (l2 : List (Fl × Value)) (h2 : l2.map (·.1) = rmF (l.map (·.1)) nxN) (W : World) (hR2 : RDk W 0 v2 l2) (hq : Sl W 1 (.slice q b.length d) b.length (bys b)) (hb : b.length ≤ 1000) => append_miss nxN v2 l2 b q d W hR2 (by rw [h2]; exact dk_rm hD nxN) nxN_ok hq hb (by rw [h2, ix_rm, ← h2, List.length_map]) (by
    have h3 : (l2.map (·.1)).length ≤ (l.map (·.1)).length - 1 := by
      rw [h2]
      have hlt : ixF (l.map (·.1)) nxN < (l.map (·.1)).length := by rw [List.length_map]; exact hi
      rw [rmF_erase hD.one hlt, List.length_eraseIdx_of_lt hlt]
      exact Nat.le_refl _
    have h4 := hD.len
    rw [List.length_map] at h3
    omega))
  obtain ⟨pv, pv', nv, cv, mv, cv', rfl, -, -⟩ := hv
  obtain ⟨pd, cd, rfl, hcd1, hcd2⟩ := hR.val
  generalize wrapL (encL s) = B at *
  clear hok hle hR hD hi
  obtain ⟨b1, B1, z1⟩ := boxed0 w [.slice pd l.length cd] 61
  have hs1 : (w.alloc (.cells #[.slice pd l.length cd] 61)).heap.size = w.heap.size + 1 := by simp
  obtain ⟨b2, B2, z2⟩ := boxed0 (w.alloc (.cells #[.slice pd l.length cd] 61)) [.int .i64 (s.step : Int), .int .i64 (s.phase : Int), .bool s.fresh, .slice pv nv cv, .slice pv' mv cv'] 51
  have hs2 : ((w.alloc (.cells #[.slice pd l.length cd] 61)).alloc (.cells #[.int .i64 (s.step : Int), .int .i64 (s.phase : Int), .bool s.fresh, .slice pv nv cv, .slice pv' mv cv'] 51)).heap.size = w.heap.size + 1 + 1 := by simp
  obtain ⟨b3, B3, z3⟩ := boxed0 ((w.alloc (.cells #[.slice pd l.length cd] 61)).alloc (.cells #[.int .i64 (s.step : Int), .int .i64 (s.phase : Int), .bool s.fresh, .slice pv nv cv, .slice pv' mv cv'] 51)) [.slice none 0 0] 61
  have hb0 : Below w.heap.size w _ := (b1.trans (b2.mono (by omega))).trans (b3.mono (by omega))
  have X1 := (B1.next b2).next b3
  have X2 := B2.next b3
  rw [hs1] at X2
  have X4 := B3
  rw [hs2] at X4
  clear b1 b2 b3 B1 B2 B3 hs1 hs2 z1 z2 z3
  go_enter Tryd.func21, Tryd.ntmps21
  go_upto_region 1 with fail
  generalize (((w.alloc (.cells #[.slice pd l.length cd] 61)).alloc (.cells #[.int .i64 (s.step : Int), .int .i64 (s.phase : Int), .bool s.fresh, .slice pv nv cv, .slice pv' mv cv'] 51)).alloc (.cells #[.slice none 0 0] 61)) = W0 at *
  obtain ⟨hx0, hx1, hx2, hx3, hx4⟩ := X2.five
  go_wp2_with fail
  refine (HEN.out _ hb0).mono ?_; rintro e w1 ⟨p6, c6, rfl, ho1, hb1⟩
  have Y1 := X1.next hb1
  have Y4 := X4.next hb1
  have hw1 := hb0.trans (hb1.mono hb0.size)
  have hX0 := X1.lt
  clear hx0 hx1 hx2 hx3 hx4 X1 X2 X4
  have hy1 := Y1.one
  go_wp2_with fail
  refine (HRM.out _ hw1).mono ?_; rintro e w2 ⟨p2, c2, l2, rfl, hl2, hR2, hb2⟩
  have hw2 := hw1.trans (hb2.mono hw1.size)
  have ho2 := own_later ho1 hb2
  obtain ⟨b3, B3, z3⟩ := boxed0 w2 [.slice p2 l2.length c2] 61
  have Z1 := (Y1.next hb2).next b3
  have Z4 := (Y4.next hb2).next b3
  have hw3 := hw2.trans (b3.mono hw2.size)
  have hlt1 : w.heap.size < w1.heap.size := Y1.lt
  have hlt0 : w.heap.size < W0.heap.size := hX0
  have HQ := Lib.hid (Sl.of_own (own_setCell (a := ⟨w.heap.size, 0, none⟩) (own_later ho2 b3) hlt0 (.slice p2 l2.length c2)))
  have HR3 := Lib.hid (((hR2.later b3).setCell (a := ⟨w.heap.size, 0, none⟩) hlt1 (.slice p2 l2.length c2)).mono (Nat.zero_le _))
  have V1 := Lib.hid (Z1.setc 0 (.slice p2 l2.length c2))
  have V4 := Lib.hid (bx_oth Z4 (a := ⟨w.heap.size, 0, none⟩) (by show w.heap.size + 1 + 1 ≠ w.heap.size; omega) (.slice p2 l2.length c2))
  have hw4 : Below w.heap.size w ((w2.alloc (.cells #[.slice p2 l2.length c2] 61)).setCell ⟨w.heap.size, 0, none⟩ (.slice p2 l2.length c2)) := hw3.setCell (Nat.le_refl _) _
  obtain ⟨hz1, hzf⟩ := Z1.one'
  have hz8 := B3.one
  clear hy1 Y1 Y4 ho1 ho2 hR2
  go_upto_region 10 with fail
  clear hz1 hzf hz8 Z1 Z4 B3 b3 z3 hw3
  generalize ((w2.alloc (.cells #[.slice p2 l2.length c2] 61)).setCell ⟨w.heap.size, 0, none⟩ (.slice p2 l2.length c2)) = w3 at *
  have hz1 := V1.out.one
  have hw3 := hw4
  clear hw4
  go_wp2_with fail
  refine (HAP.out _ _ _ _ _ hl2.out _ HR3.out HQ.out hwl).mono ?_; rintro e w4 ⟨p, c, l', rfl, hl', hR', hb4⟩
  have Z4 := V4
  rw [hl2.out] at hl'
  have hzl := Z4.out.lt
  have V5 := Z4.out.next hb4
  have hw4 := hw3.trans (hb4.mono hw3.size)
  have hsz3 := hw3.size
  obtain ⟨hv4, hvf⟩ := V5.one'
  have HR' := Lib.hid hR'
  clear hz1 hR'
  go_wp2_with fail
  refine bodyPost_ret (v := .tuple #[.agg #[.slice p l'.length c], .int .i64 0]) ?_ rfl ⟨p, c, l', rfl, hl', ?_, ?_⟩
  · rw [results_cell_tmp rfl]
    go_simp
  · exact (HR'.out.setCell (by show w.heap.size + 1 + 1 < _; exact hzl) _).mono hsz3
  · exact hw4.setCell (by show w.heap.size ≤ w.heap.size + 1 + 1; omega) _
end Go.Proofs.YtmdbcknlipahgaaDoor
