/- slices.SortFunc at mail in order, and graph.Sorted. -/
import Derived.Test.YtiaflhlfodcbjaaSortOwn
import Derived.Test.YtiaflhlfodcbjaaPGraph
import Derived.Test.YtiaflhlfodcbjaaLay
import Derived.Test.YtiaflhlfodcbjaaCloneE
import Derived.Test.YtiaflhlfodcbjaaOrdE
import Derived.Test.YtiaflhlfodcbjaaCheck
import Derived.Laws.ResultCell
namespace Go.Proofs.Ytiaflhlfodcbjaa
open Go.RowKit Go.Sort Go.Proofs Go.Shelf
theorem ecs_enc (l : List (Eg)) : ecs l = l.flatMap encE := rfl
theorem ordE_enters : ∀ args w, (callFunc 67 args).run Try.prog w = .ok (.enter 67 args) w := enters_of Try.func67 (by kernel_rfl) rfl
theorem sfE_ok (p : Option Addr) (n c base : Nat) (l : List (Eg)) (W : World) (hown : W.ownsRow base 46 3 (.slice p n c) n (ecs l)) (hn : n ≤ 100000) (hbase : base ≤ W.heap.size) :
    Calls Try.prog 66 #[.slice p n c, .func (.func 67) #[] #[]] W fun e w' => e = .returned (.tuple #[]) ∧ w'.ownsRow base 46 3 (.slice p n c) n (ecs (srt cfE l)) ∧ Below base W w' := by
  have hln : n = l.length := by have := hown.1; rw [ecs_len] at this; omega
  by_cases h0 : n = 0
  · subst h0
    obtain rfl : l = [] := List.eq_nil_of_length_eq_zero hln.symm
    have hcon := AnyF.slices_SortFunc_none laySortE p c (.func (.func 67) #[] #[]) W
    change Calls Try.prog 66 _ _ _ at hcon
    refine hcon.mono ?_
    rintro e w' ⟨rfl, rfl⟩
    exact ⟨rfl, by rw [show srt cfE [] = [] from by unfold srt; exact List.mergeSort_nil]; exact hown, Below.refl _ _⟩
  · have hown' := hown
    rcases hown'.2 with ⟨_, h⟩ | ⟨g, cap, cur, h1, hb, h2, _⟩
    · exact absurd h h0
    · cases h1
      have hg : g < W.heap.size := (Array.getElem?_eq_some_iff.1 h2).1
      rw [ecs_enc] at hown
      have hH := holdsK_of_own encE 3 (fun _ => rfl) (by decide) hown
      have hcon := AnyQ.slices_SortFunc_total laySortE 3 Try.isAgg46 Try.sizeOf46 encE (fun _ => rfl) (fun x v hv => by simp [encE] at hv; rcases hv with rfl | rfl | rfl <;> rfl) cfE swoE 67 #[] g 0 c l.toArray W ordE_enters (ordE_lays g 0 l.toArray.size W) hH hg (by simp; omega) totE
      change Calls Try.prog 66 _ _ _ at hcon
      rw [show l.toArray.size = n from by simp; exact hln.symm] at hcon
      refine hcon.mono ?_
      rintro e w' ⟨rfl, m, os, rfl⟩
      obtain ⟨h3, h4⟩ := own_sorted (d' := srt cfE l) encE 3 (fun _ => rfl) (by decide) hown (srt_len l) m os
      exact ⟨rfl, h3, (Below.refl base W).grown h4 hbase (fun k hk => by cases hk; exact hb)⟩
set_option maxHeartbeats 2000000 in
set_option maxRecDepth 100000 in
theorem sortedG_ok (N n c : Nat) (p : Option Addr) (E : List Eg) (w : World) (h : Sl w 3 (.slice p n c) n (ecs E)) (hG : InG N E) (hN : N ≤ 200) (hn : n ≤ 600) :
    Calls Try.prog 50 #[.agg #[.int .i64 (N : Int), .slice p n c]] w fun e w' => ∃ p' c', e = .returned (.tuple #[.agg #[.int .i64 (N : Int), .slice p' n c'], .int .i64 0]) ∧ w'.ownsRow w.heap.size 46 3 (.slice p' n c') n (ecs (srt cfE E)) ∧ Below w.heap.size w w' := by
  have HCH := Lib.hid (fun (W : World) (h' : Below w.heap.size w W) => check_ok N n c p E W (h.later h') hG hN hn)
  have HCL := Lib.hid (fun (W : World) (h' : Below w.heap.size w W) => cloneE_ok n c p (ecs E) W (h.later h') (ecs_one E) (by omega))
  clear h hG
  have B1 := (bx_new w [.int .i64 (N : Int), .slice p n c] 25).alloc (.cells #[.int .i64 0, .slice none 0 0] 25)
  have B2 := bx_new (w.alloc (.cells #[.int .i64 (N : Int), .slice p n c] 25)) [.int .i64 0, .slice none 0 0] 25
  rw [show (w.alloc (.cells #[.int .i64 (N : Int), .slice p n c] 25)).heap.size = w.heap.size + 1 from by simp] at B2
  have hW := ((Below.refl w.heap.size w).alloc (Nat.le_refl _) (.cells #[.int .i64 (N : Int), .slice p n c] 25)).alloc (by simp) (.cells #[.int .i64 0, .slice none 0 0] 25)
  have hsz : ((w.alloc (.cells #[.int .i64 (N : Int), .slice p n c] 25)).alloc (.cells #[.int .i64 0, .slice none 0 0] 25)).heap.size = w.heap.size + 2 := by simp
  have HB1 := Lib.hid B1
  have HB2 := Lib.hid B2
  have HSZ := Lib.hid hsz
  obtain ⟨ha0, ha1, _, _⟩ := B1.two
  clear B1 B2 hsz
  go_enter Try.func50, Try.ntmps50
  go_wp2_with fail
  refine (HCH.out _ hW).mono ?_; rintro e w1 ⟨rfl, hb1⟩
  have hs1 := hb1.size
  have hw1 := hW.trans (hb1.mono (by rw [HSZ.out]; omega))
  have X1 := HB1.out.later hb1 (by rw [HSZ.out]; omega)
  have X2 := HB2.out.later hb1 (by rw [HSZ.out]; omega)
  rw [HSZ.out] at hs1
  clear hb1 hW ha0 ha1
  generalize ((w.alloc (.cells #[.int .i64 (N : Int), .slice p n c] 25)).alloc (.cells #[.int .i64 0, .slice none 0 0] 25)) = W0 at *
  have HX1 := Lib.hid X1
  have HX2 := Lib.hid X2
  obtain ⟨ha0, ha1, _, _⟩ := X1.two
  clear X1 X2
  go_wp2_with fail
  refine (HCL.out w1 hw1).mono ?_; rintro e w2 ⟨p2, c2, rfl, ho2, hb2⟩
  clear ha0 ha1
  have hs2 := hb2.size
  have hw2 := hw1.trans (hb2.mono hw1.size)
  have X1 := HX1.out.later hb2 HX1.out.lt
  have X2 := HX2.out.later hb2 HX2.out.lt
  go_wp2_with fail
  refine (sfE_ok p2 n c2 w1.heap.size E w2 ho2 (by omega) hb2.size).mono ?_; rintro e w3 ⟨rfl, ho3, hb3⟩
  have hs3 := hb3.size
  have hw3 := hw2.trans (hb3.mono (by omega))
  have Y1 := X1.later hb3 (by omega)
  have Y2 := X2.later hb3 (by omega)
  obtain ⟨ha0, ha1, _, _⟩ := Y1.two
  obtain ⟨hr0, hr1, hf0, hf1⟩ := Y2.two
  clear X1 X2 Y1 Y2
  go_wp2_with fail
  refine bodyPost_ret (v := .tuple #[.agg #[.int .i64 (N : Int), .slice p2 n c2], .int .i64 0]) ?_ rfl ⟨p2, c2, rfl, ?_, ?_⟩
  · rw [results_cell_tmp rfl]
    go_simp
  · refine own_mono (base := w1.heap.size) ?_ (by omega)
    iterate 2 (refine own_setCell ?_ (by simp <;> omega) _)
    exact ho3
  · iterate 2 (refine Below.setCell ?_ (by simp <;> omega) _)
    exact hw3
end Go.Proofs.Ytiaflhlfodcbjaa
