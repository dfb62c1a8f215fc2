/- The walk of the law BoardOnce. -/
import Derived.Test.YtmadpjmlcooinaaReported
import Derived.Test.YtmadpjmlcooinaaHearBad
import Derived.Test.YtmadpjmlcooinaaBoardL
import Derived.IntWalk
import Derived.Deep.RegionHeld3
namespace Go.Proofs.Ytmadpjmlcooinaa
open Go.RowKit
set_option maxHeartbeats 4000000 in
set_option maxRecDepth 100000 in
theorem boardOnce_walk (w : World) (a0 : Int) (h00 : -9223372036854775808 ≤ a0) (h01 : a0 ≤ 9223372036854775807) (v1 : Value) (L : List Tl) (h1 : IsTl w v1 L) (a2 : Int) (h20 : -9223372036854775808 ≤ a2) (h21 : a2 ≤ 9223372036854775807) (a3 : Int) (h30 : -9223372036854775808 ≤ a3) (h31 : a3 ≤ 9223372036854775807) (a4 : Int) (h40 : -9223372036854775808 ≤ a4) (h41 : a4 ≤ 9223372036854775807) :
    Calls Try.prog 6 #[.int .i64 a0, v1, .int .i64 a2, .int .i64 a3, .int .i64 a4] w fun e w' => e = .returned (.bool true) ∧ Below w.heap.size w w' := by
  obtain ⟨pl, cl, rfl, _⟩ := h1.val
  obtain ⟨W, hW⟩ : ∃ W, W = 1 + pickN a0 5 := ⟨_, rfl⟩
  have hW5 := pickN_lt a0 (m := 5) (by omega)
  obtain ⟨u, hu⟩ : ∃ u, u = pickN a2 W := ⟨_, rfl⟩
  have huW := pickN_lt a2 (m := W) (by omega)
  obtain ⟨st', hst'⟩ : ∃ u, u = pickN a3 5 := ⟨_, rfl⟩
  have hst5 := pickN_lt a3 (m := 5) (by omega)
  obtain ⟨ep', hep'⟩ : ∃ u, u = pickN a4 4 := ⟨_, rfl⟩
  have hep4 := pickN_lt a4 (m := 4) (by omega)
  have P0 := Lib.hid (fun w' => picked_i a0 5 5 w' rfl h00 h01 (by omega) (by omega))
  have P2 := Lib.hid (fun w' => picked_i a2 W W w' rfl h20 h21 (by omega) (by omega))
  have P3 := Lib.hid (fun w' => picked_i a3 5 5 w' rfl h30 h31 (by omega) (by omega))
  have P4 := Lib.hid (fun w' => picked_i a4 4 4 w' rfl h40 h41 (by omega) (by omega))
  rw [← hu] at P2 huW
  rw [← hst'] at P3 hst5
  rw [← hep'] at P4 hep4
  have H1 := Lib.hid h1
  have hnil : ∀ w' : World, IsI w' (.slice none ([] : List Int).length 0) [] := fun w' => ⟨⟨none, 0, rfl, Nat.le_refl _, by decide, rfl, fun _ => rfl, .inl rfl⟩, fun x hx => by cases hx⟩
  have HR := Lib.hid (fun w' (hb : Below w.heap.size w w') => reported_ok W cl 0 W (-1) pl none L [] w' (H1.out.later hb) (hnil w') (by omega) (by omega) (by omega) (by omega))
  go_enter Try.func6, Try.ntmps6
  have hwi : IntKind.i64.wrap (1 + ((pickN a0 5 : Nat) : Int)) = (W : Int) := by rw [hW]; push_cast; exact IntWalk.i64_in _ (by omega)
  have hWb1 : 1 ≤ W := by omega
  have hWb5 : W ≤ 5 := by omega
  obtain ⟨q0, hq0⟩ : ∃ q, q = pickN a0 5 := ⟨_, rfl⟩
  rw [← hq0] at P0 hwi hW hW5
  clear hW hq0 h1 hnil hu hst' hep'
  go_wp2_with fail
  refine (P0.out _).mono ?_; rintro e w' ⟨rfl, rfl⟩
  have hb0 : Below w.heap.size w w := Below.refl _ _
  go_wp2_with fail
  refine (HR.out _ hb0).mono ?_; rintro e w1 ⟨T1, p1, c1, hT1, rfl, hbd1, hb1⟩
  have hok1 := repsL_bd (L := L) (W := W) (out := W) (off := (-1)) (t := W) hT1
  rw [List.take_of_length_le (by rw [hT1.len]; exact Nat.le_refl _)] at hok1
  have hlen := repsL_len (L := L) (off := (-1)) hT1
  have hc1 := Lib.hid (below_next hb0 (Nat.le_refl _) hb1)
  generalize repsL L W W (-1) T1 = rs at *
  obtain ⟨_, _, _, hcc1, hcc2⟩ := hbd1.val
  rw [hlen] at hbd1 hcc1 ⊢
  have HLEN := Lib.hid hlen
  have HBD := Lib.hid hbd1
  have HOK := Lib.hid hok1
  clear hb0 hb1 hbd1 hok1 hT1
  have hul : u < rs.length := by omega
  obtain ⟨ba, BA, za⟩ := boxed0 w1 [.int .i64 (W : Int), .int .i64 2, .int .i64 3, .slice p1 W c1] 56
  have hsa : (w1.alloc (.cells #[.int .i64 (W : Int), .int .i64 2, .int .i64 3, .slice p1 W c1] 56)).heap.size = w1.heap.size + 1 := by simp
  have hca := Lib.hid (below_next hc1.out (Nat.le_refl _) ba)
  obtain ⟨b, off, s, g, rfl, hcells, hrv⟩ := (HBD.out.later ba).get hul
  have hnow := HOK.out.now _ (List.getElem_mem hul)
  have hju : rs[u]? = some rs[u] := List.getElem?_eq_getElem hul
  have HJU := Lib.hid hju
  clear hju
  generalize rs[u] = r0 at *
  have hcell0 := hcells 0 _ rfl
  have hcell1 := hcells 1 _ rfl
  have hcell2 := hcells 2 _ rfl
  have hcell3 := hcells 3 _ rfl
  have hcell4 := hcells 4 _ rfl
  have hcell5 := hcells 5 _ rfl
  have hcell6 := hcells 6 _ rfl
  obtain ⟨ps8, cs8, rfl⟩ : ∃ p c, s = .slice p r0.sent.length c := by obtain ⟨p, c, hp, _⟩ := hrv.1; exact ⟨p, c, hp⟩
  obtain ⟨pg8, cg8, rfl⟩ : ∃ p c, g = .slice p r0.got.length c := by obtain ⟨p, c, hp, _⟩ := hrv.2; exact ⟨p, c, hp⟩
  have HRV := Lib.hid hrv
  have HNOW := Lib.hid hnow
  obtain ⟨wk, ep, st, sent, got, wa0, op0⟩ := r0
  replace hcell0 : (w1.alloc (.cells #[.int .i64 (W : Int), .int .i64 2, .int .i64 3, .slice (some ⟨b, off, none⟩) W c1] 56)).cell? ⟨b, off + u * 7, none⟩ = some (.int .i64 (wk : Int)) := hcell0
  dsimp only at *
  have hbb : b < (w1.alloc (.cells #[.int .i64 (W : Int), .int .i64 2, .int .i64 3, .slice (some ⟨b, off, none⟩) W c1] 56)).heap.size := World.block_lt_of_cell? _ _ hcell1
  clear hcells hrv hnow
  clear hlen
  obtain ⟨hx0, hx1, hx2, hx3, _, _, _, _⟩ := BA.four
  have HBA := Lib.hid BA
  have HAB := Lib.hid ba
  have huW0 : (0 : Int) ≤ (u : Int) := by omega
  have huW' : (u : Int) < (W : Int) := by omega
  go_wp2_with fail
  clear BA za ba
  generalize (w1.alloc (.cells #[.int .i64 (W : Int), .int .i64 2, .int .i64 3, .slice (some ⟨b, off, none⟩) W c1] 56)) = wa at *
  have hn1 : ¬ b = wa.heap.size := by omega
  have hn2 : ¬ wa.heap.size = b := by omega
  have hn3 : ¬ w1.heap.size = wa.heap.size := by omega
  have hn4 : ¬ wa.heap.size = w1.heap.size := by omega
  clear hsa
  go_region_held3 (fun w' => w'.cell? ⟨w1.heap.size, 3, none⟩ = some (Value.slice (some ⟨b, off, none⟩) W c1) ∧ w'.cell? ⟨b, off + u * 7, none⟩ = some (Value.int .i64 (wk : Int)) ∧ w'.cell? ⟨b, off + u * 7 + 1, none⟩ = some (Value.int .i64 (ep : Int)) ∧ w'.cell? ⟨b, off + u * 7 + 2, none⟩ = some (Value.int .i64 (st : Int)) ∧ w'.cell? ⟨b, off + u * 7 + 3, none⟩ = some (Value.slice ps8 sent.length cs8) ∧ w'.cell? ⟨b, off + u * 7 + 4, none⟩ = some (Value.slice pg8 got.length cg8) ∧ w'.cell? ⟨b, off + u * 7 + 5, none⟩ = some (Value.int .i64 (wa0 : Int)) ∧ w'.cell? ⟨b, off + u * 7 + 6, none⟩ = some (Value.int .i64 (op0 : Int))) (first | go_keep)
    (first
      | (go_at_call 17; refine (P2.out _).mono ?_; rintro e w' ⟨rfl, rfl⟩))
  all_goals
    clear hcell0 hcell1 hcell2 hcell3 hcell4 hcell5 hcell6 hx0 hx1 hx2 hx3
    have hX14 : Bx (wa.alloc (.cells #[.int .i64 (wk : Int), .int .i64 (ep : Int), .int .i64 (st : Int), .slice ps8 sent.length cs8, .slice pg8 got.length cg8, .int .i64 (wa0 : Int), .int .i64 (op0 : Int)] 61)).drew wa.heap.size [.int .i64 (wk : Int), .int .i64 (ep : Int), .int .i64 (st : Int), .slice ps8 sent.length cs8, .slice pg8 got.length cg8, .int .i64 (wa0 : Int), .int .i64 (op0 : Int)] := bx_new wa _ _
    have hX12 : Bx (wa.alloc (.cells #[.int .i64 (wk : Int), .int .i64 (ep : Int), .int .i64 (st : Int), .slice ps8 sent.length cs8, .slice pg8 got.length cg8, .int .i64 (wa0 : Int), .int .i64 (op0 : Int)] 61)).drew w1.heap.size [.int .i64 (W : Int), .int .i64 2, .int .i64 3, .slice (some ⟨b, off, none⟩) W c1] := HBA.out.alloc _
    have hbz : Below wa.heap.size wa (wa.alloc (.cells #[.int .i64 (wk : Int), .int .i64 (ep : Int), .int .i64 (st : Int), .slice ps8 sent.length cs8, .slice pg8 got.length cg8, .int .i64 (wa0 : Int), .int .i64 (op0 : Int)] 61)).drew := (alloc_below wa _).drew
    generalize (wa.alloc (.cells #[.int .i64 (wk : Int), .int .i64 (ep : Int), .int .i64 (st : Int), .slice ps8 sent.length cs8, .slice pg8 got.length cg8, .int .i64 (wa0 : Int), .int .i64 (op0 : Int)] 61)).drew = wb at *
    have hY14 := Lib.hid ((hX14.setc 2 (.int .i64 (st' : Int))).setc 1 (.int .i64 (ep' : Int)))
    have hY12 := Lib.hid (bx_oth (bx_oth hX12 (a := ⟨wa.heap.size, 2, none⟩) hn3 (.int .i64 (st' : Int))) (a := ⟨wa.heap.size, 1, none⟩) hn3 (.int .i64 (ep' : Int)))
    have hbz2 := Lib.hid (show Below wa.heap.size wa ((wb.setCell ⟨wa.heap.size, 2, none⟩ (.int .i64 (st' : Int))).setCell ⟨wa.heap.size, 1, none⟩ (.int .i64 (ep' : Int))) from (hbz.setCell (Nat.le_refl _) _).setCell (Nat.le_refl _) _)
    obtain ⟨⟨hy0, hy1, hy2, hy3, hy4, hy5, hy6⟩, hf0, hf1, hf2, hf3, hf4, hf5, hf6⟩ := hX14.seven
    obtain ⟨hx0, hx1, hx2, hx3, _, _, _, _⟩ := hX12.four
    clear hX14 hX12 hbz
    go_wp2_with fail
    refine (P3.out _).mono ?_; rintro e w' ⟨rfl, rfl⟩
    go_wp2_with fail
    refine (P4.out _).mono ?_; rintro e w' ⟨rfl, rfl⟩
    go_wp2_with fail
    clear hy0 hy1 hy2 hy3 hy4 hy5 hy6 hf0 hf1 hf2 hf3 hf4 hf5 hf6 hx0 hx1 hx2 hx3
    generalize ((wb.setCell ⟨wa.heap.size, 2, none⟩ (.int .i64 (st' : Int))).setCell ⟨wa.heap.size, 1, none⟩ (.int .i64 (ep' : Int))) = wz at *
    have hrk : RpOk W ⟨wk, ep', st', sent, got, wa0, op0⟩ := ⟨HNOW.out.1.wk, HNOW.out.1.sl, HNOW.out.1.gl, HNOW.out.1.sb, HNOW.out.1.gb, HNOW.out.1.wa, HNOW.out.1.op⟩
    have hrvz : RpV wz ⟨wk, ep', st', sent, got, wa0, op0⟩ (.slice ps8 sent.length cs8) (.slice pg8 got.length cg8) := HRV.out.later hbz2.out
    have hbdz : IsBd wz (.slice (some ⟨b, off, none⟩) rs.length c1) rs := by
      rw [HLEN.out]
      exact (HBD.out.later HAB.out).later hbz2.out
    by_cases hnow : ep' = 2 ∧ st' = 3
    · obtain ⟨rfl, rfl⟩ := hnow
      have hh := hear_twice W c1 _ rs ⟨wk, 2, 3, sent, got, wa0, op0⟩ _ _ wz hbdz HOK.out ⟨hrk, rfl, rfl⟩ ⟨u, _, HJU.out, rfl⟩ hrvz (by omega) (by omega)
      rw [HLEN.out] at hh
      have HH := Lib.hid hh
      clear hh hbdz hrvz hrk
      refine (show Calls _ _ _ _ _ from HH.out).mono ?_; rintro e w5 ⟨rfl, hb5⟩
      have hz5 := hb5.size
      have hY5 := (hY14.out.next hb5).alloc (.cells #[.int .i64 0, .int .i64 0, .int .i64 0, .slice none 0 0] 56)
      obtain ⟨⟨hy0, hy1, hy2, hy3, hy4, hy5, hy6⟩, _⟩ := hY5.seven
      have hfin := hca.out.trans (hbz2.out.mono hca.out.size)
      have hfin2 := (hfin.trans (hb5.mono hfin.size)).alloc (Nat.le_trans hfin.size hz5) (.cells #[.int .i64 0, .int .i64 0, .int .i64 0, .slice none 0 0] 56)
      go_wp2_with fail
      go_ret
      exact ⟨rfl, hfin2⟩
    · have hh := hear_epoch W c1 _ rs ⟨wk, ep', st', sent, got, wa0, op0⟩ _ _ wz hbdz HOK.out hrk (by show ep' ≤ 1000; omega) (by show st' ≤ 1000; omega) hnow hrvz (by omega) (by omega)
      rw [HLEN.out] at hh
      have HH := Lib.hid hh
      clear hh hbdz hrvz hrk
      refine (show Calls _ _ _ _ _ from HH.out).mono ?_; rintro e w5 ⟨rfl, hb5⟩
      have hz5 := hb5.size
      have hY5 := (hY14.out.next hb5).alloc (.cells #[.int .i64 0, .int .i64 0, .int .i64 0, .slice none 0 0] 56)
      obtain ⟨⟨hy0, hy1, hy2, hy3, hy4, hy5, hy6⟩, _⟩ := hY5.seven
      have hfin := hca.out.trans (hbz2.out.mono hca.out.size)
      have hfin2 := (hfin.trans (hb5.mono hfin.size)).alloc (Nat.le_trans hfin.size hz5) (.cells #[.int .i64 0, .int .i64 0, .int .i64 0, .slice none 0 0] 56)
      by_cases hs3 : st' = 3
      · subst hs3
        have he2 : ¬ ((ep' : Int) = 2) := by omega
        go_wp2_with fail
        go_ret
        exact ⟨rfl, hfin2⟩
      · have hs3' : ¬ ((st' : Int) = 3) := by omega
        go_wp2_with fail
        go_ret
        exact ⟨rfl, hfin2⟩
end Go.Proofs.Ytmadpjmlcooinaa
