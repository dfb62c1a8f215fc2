/- The walk of paths.hops. -/
import Derived.Test.YtiaflhlfodcbjaaRowsM
import Derived.Test.YtiaflhlfodcbjaaHeldL
namespace Go.Proofs.Ytiaflhlfodcbjaa
open Go.RowKit
theorem inf_row : (Try.prog.info? 92).map (fun i => (i.zero, i.size, i.bytes)) = some (some (.slice none 0 0), 1, 24) := by kernel_rfl
set_option maxHeartbeats 8000000 in
set_option maxRecDepth 100000 in
theorem hopsP_ok (N n c : Nat) (p : Option Addr) (E : List Eg) (w : World) (h : Sl w 3 (.slice p n c) n (ecs E)) (hG : InG N E) (hN : N ≤ 200) (hn : n ≤ 600) :
    Calls Try.prog 38 #[.agg #[.int .i64 (N : Int), .slice p n c]] w fun e w' => ∃ g, e = .returned (.slice (some ⟨g, 0, none⟩) N N) ∧ MemM w' w.heap.size g N (rowsL N E) ∧ w.heap.size ≤ g ∧ g < w'.heap.size ∧ Below w.heap.size w w' := by
  obtain ⟨hln, hnc, hc63⟩ := h.elen
  have HL := Lib.hid h
  have HLN := Lib.hid hln
  have HG := Lib.hid hG
  clear h hG hln
  obtain ⟨b0, B0, hz0⟩ := boxed0 w [.int .i64 (N : Int), .slice p n c] 25
  have hsz : (w.alloc (.cells #[.int .i64 (N : Int), .slice p n c] 25)).heap.size = w.heap.size + 1 := by simp
  obtain ⟨i0, hi, hj0, hj1, hj2⟩ := info_parts inf_row
  obtain ⟨wm, hrun, hom, hgm⟩ := run_make_full (P := Try.prog) (w.alloc (.cells #[.int .i64 (N : Int), .slice p n c] 25)) (w.heap.size + 1) 82 92 i0 (.slice none 0 0) 1 rfl hi hj0 hj1 .i64 .i64 N (by rw [hj2]; omega) (by unfold maxLen; omega) (by rw [hsz]; exact Nat.le_refl _)
  rw [hsz] at hrun hom
  have hbm := (Below.refl (w.alloc (.cells #[.int .i64 (N : Int), .slice p n c] 25)).heap.size _).grown hgm (Nat.le_refl _) (fun k hk => by cases hk)
  have X0 := B0.next hbm
  have hbw : Below w.heap.size w wm := b0.trans (hbm.mono (by omega))
  have hM : OwnM wm (w.heap.size + 1) (w.heap.size + 1) N (rowsL N (E.take 0)) (List.replicate N (.slice none 0 0)) := by
    rw [List.take_zero]
    refine OwnM.made ?_
    rw [← toList_madeCells_one]
    rw [Nat.mul_one] at hom
    exact hom
  obtain ⟨ha0, ha1, _, _⟩ := B0.two
  obtain ⟨hy0, hy1, _, _⟩ := X0.two
  clear hom hgm hi hj0 hj1 hj2 hsz hbm b0 hz0 B0 X0
  go_enter Try.func38, Try.ntmps38
  go_wp2_with fail
  clear ha0 ha1 hrun hy0 hy1
  obtain ⟨g, hg⟩ : ∃ g, g = w.heap.size + 1 := ⟨_, rfl⟩
  rw [← hg] at hM ⊢
  have hgw : w.heap.size ≤ g := by omega
  clear hg
  go_loopg [12] n (fun gk v12 wr => ∃ (k : Nat) (vs : List Value), v12 = .int .i64 (k : Int) ∧ k + gk = n ∧ OwnM wr g g N (rowsL N (E.take k)) vs ∧ Below w.heap.size w wr)
  case atStart => exact ⟨0, _, rfl, by omega, hM, hbw⟩
  case round =>
    clear hM hbw
    obtain ⟨k, vs, rfl, hgk, hO, hb⟩ := hrel
    have HGK := Lib.hid hgk
    have hk : k ≤ n := by omega
    clear hgk
    have hsz := hb.size
    have hgs : g < wr.heap.size := (hO.outer.lt g rfl).2
    by_cases hlt : k < n
    · have hkl : k < E.length := by have := HLN.out; omega
      have hin := HG.out _ (List.getElem_mem hkl)
      have hrt := rowsL_take (N := N) hkl
      have hr := rowsL_at (E.take k) hin.1
      have hrl := hopsL_take_len E k E[k].1
      obtain ⟨b, off, rfl, hc0, hc1, hc2⟩ := (HL.out.later hb).edge hkl
      generalize E[k] = x at hin hrt hr hrl hc0 hc1 hc2
      obtain ⟨x1, x2, x3⟩ := x
      dsimp only at hin hrt hr hrl hc0 hc1 hc2
      obtain ⟨hx1, hx2, hx3⟩ := hin
      generalize hopsL (E.take k) x1 = r at hrt hr hrl
      obtain ⟨u, hu⟩ : ∃ u, vs[x1]? = some u := ⟨_, List.getElem?_eq_getElem (by rw [hO.vlen]; exact hx1)⟩
      have hin0 := hO.inner x1 r u hr hu
      obtain ⟨p1, c1, rfl⟩ := own_slice hin0
      have HR := Lib.hid hr
      have HRT := Lib.hid hrt
      have HU := Lib.hid hu
      have HO := Lib.hid hO
      clear hr hrt hu
      have hk0 : (0 : Int) ≤ (k : Int) := by omega
      have hkn : (k : Int) < (n : Int) := by omega
      have hd1' : decide ((k : Int) < (n : Int)) = true := by simp; omega
      have hd2' : decide (k < n) = true := by simp; omega
      have hx10 : (0 : Int) ≤ (x1 : Int) := by omega
      have hx1n : (x1 : Int) < (N : Int) := by omega
      go_wp2_with fail
      clear hc0 hc1 hc2 hO
      have HXA := Lib.hid (bx_new wr [.int .i64 (x1 : Int), .int .i64 (x2 : Int), .int .i64 (x3 : Int)] 46)
      have HOA := Lib.hid (HO.out.alloc (.cells #[.int .i64 (x1 : Int), .int .i64 (x2 : Int), .int .i64 (x3 : Int)] 46))
      have hin1 := hin0.alloc (.cells #[.int .i64 (x1 : Int), .int .i64 (x2 : Int), .int .i64 (x3 : Int)] 46)
      have hbA := hb.alloc hsz (.cells #[.int .i64 (x1 : Int), .int .i64 (x2 : Int), .int .i64 (x3 : Int)] 46)
      have hzA : (wr.alloc (.cells #[.int .i64 (x1 : Int), .int .i64 (x2 : Int), .int .i64 (x3 : Int)] 46)).heap.size = wr.heap.size + 1 := by simp
      have HFA := Lib.hid (show (Value.slice p1 r.length c1).ownBlock ≠ some wr.heap.size from fun e => by have := (hin0.lt _ e).2; omega)
      have HFO := Lib.hid (show ∀ j, (Value.slice (some ⟨g, 0, none⟩) N N).ownBlock = some j → (Value.slice p1 r.length c1).ownBlock ≠ some j from fun j hj e => by have h1 : g = j := Option.some.inj hj; have := (hin0.lt _ e).1; omega)
      clear hin0
      have HZA := Lib.hid hzA
      have hszA : g + 1 ≤ (wr.alloc (.cells #[.int .i64 (x1 : Int), .int .i64 (x2 : Int), .int .i64 (x3 : Int)] 46)).heap.size := by omega
      clear hzA
      change (Code.region _ _ _).wp _ _ _ (wr.alloc (.cells #[.int .i64 (x1 : Int), .int .i64 (x2 : Int), .int .i64 (x3 : Int)] 46))
      generalize hwa : wr.alloc (.cells #[.int .i64 (x1 : Int), .int .i64 (x2 : Int), .int .i64 (x3 : Int)] 46) = wa at *
      clear hwa
      have hS1 := HXA.out.three
      have hS2 := HOA.out.outer.cellAt x1 (by omega)
      rw [HU.out] at hS2
      obtain ⟨S, hSI⟩ : ∃ S : World → Prop, ∀ w', S w' ↔ (w'.cell? ⟨wr.heap.size, 0, none⟩ = some (Value.int .i64 (x1 : Int)) ∧ w'.cell? ⟨wr.heap.size, 1, none⟩ = some (Value.int .i64 (x2 : Int)) ∧ w'.cell? ⟨wr.heap.size, 2, none⟩ = some (Value.int .i64 (x3 : Int)) ∧ w'.cell? ⟨g, x1, none⟩ = some (Value.slice p1 r.length c1)) := ⟨fun w' => _, fun w' => Iff.rfl⟩
      have HSI := Lib.hid hSI
      clear hSI
      refine wp_region_L S 16 (by kernel_rfl) ((HSI.out _).2 ⟨hS1.1, hS1.2.1, hS1.2.2.1, hS2⟩) (fun hS => ?_)
      clear hS1 hS2
      refine wpAnyL_take 0 (v := ?_) rfl rfl (by kernel_rfl) (by kernel_rfl) (by kernel_rfl) (by kernel_rfl) (fun _ _ _ h => h) (Or.inl ⟨by rfl, ?_⟩) hS ?_; rotate_left; · intro w hSw; go_simp <;> with_reducible rfl
      try simp only [Act.put, List.setIfInBounds_toArray, List.set_cons_zero, List.set_cons_succ]
      refine wpAnyL_take 1 (v := ?_) rfl rfl (by kernel_rfl) (by kernel_rfl) (by kernel_rfl) (by kernel_rfl) (fun _ _ _ h => h) (Or.inl ⟨by rfl, ?_⟩) hS ?_; rotate_left; · intro w hSw; go_simp <;> with_reducible rfl
      try simp only [Act.put, List.setIfInBounds_toArray, List.set_cons_zero, List.set_cons_succ]
      refine wpAnyL_take 2 (v := ?_) rfl rfl (by kernel_rfl) (by kernel_rfl) (by kernel_rfl) (by kernel_rfl) (fun _ _ _ h => h) (Or.inl ⟨by rfl, ?_⟩) hS ?_; rotate_left; · intro w hSw; obtain ⟨hz0, hz1, hz2, hz3⟩ := (HSI.out w).1 hSw; go_simp <;> with_reducible rfl
      try simp only [Act.put, List.setIfInBounds_toArray, List.set_cons_zero, List.set_cons_succ]
      refine wpAnyL_take 3 (v := ?_) rfl rfl (by kernel_rfl) (by kernel_rfl) (by kernel_rfl) (by kernel_rfl) (fun _ _ _ h => h) (Or.inl ⟨by rfl, ?_⟩) hS ?_; rotate_left; · intro w hSw; go_simp <;> with_reducible rfl
      try simp only [Act.put, List.setIfInBounds_toArray, List.set_cons_zero, List.set_cons_succ]
      refine wpAnyL_take 4 (v := ?_) rfl rfl (by kernel_rfl) (by kernel_rfl) (by kernel_rfl) (by kernel_rfl) (fun _ _ _ h => h) (Or.inl ⟨by rfl, ?_⟩) hS ?_; rotate_left; · intro w hSw; go_simp <;> with_reducible rfl
      try simp only [Act.put, List.setIfInBounds_toArray, List.set_cons_zero, List.set_cons_succ]
      refine wpAnyL_take 5 (v := ?_) rfl rfl (by kernel_rfl) (by kernel_rfl) (by kernel_rfl) (by kernel_rfl) (fun _ _ _ h => h) (Or.inl ⟨by rfl, ?_⟩) hS ?_; rotate_left; · intro w hSw; obtain ⟨hz0, hz1, hz2, hz3⟩ := (HSI.out w).1 hSw; go_simp <;> with_reducible rfl
      try simp only [Act.put, List.setIfInBounds_toArray, List.set_cons_zero, List.set_cons_succ]
      refine wpAnyL_take 6 (v := ?_) rfl rfl (by kernel_rfl) (by kernel_rfl) (by kernel_rfl) (by kernel_rfl) (fun _ _ _ h => h) (Or.inl ⟨by rfl, ?_⟩) hS ?_; rotate_left; · intro w hSw; go_simp <;> with_reducible rfl
      try simp only [Act.put, List.setIfInBounds_toArray, List.set_cons_zero, List.set_cons_succ]
      refine wpAnyL_take 7 (v := ?_) rfl rfl (by kernel_rfl) (by kernel_rfl) (by kernel_rfl) (by kernel_rfl) (fun _ _ _ h => h) (Or.inl ⟨by rfl, ?_⟩) hS ?_; rotate_left; · intro w hSw; obtain ⟨hz0, hz1, hz2, hz3⟩ := (HSI.out w).1 hSw; go_simp <;> with_reducible rfl
      try simp only [Act.put, List.setIfInBounds_toArray, List.set_cons_zero, List.set_cons_succ]
      refine wpAnyL_take 8 (v := ?_) rfl rfl (by kernel_rfl) (by kernel_rfl) (by kernel_rfl) (by kernel_rfl) (fun _ _ _ h => h) (Or.inl ⟨by rfl, ?_⟩) hS ?_; rotate_left; · intro w hSw; go_simp <;> with_reducible rfl
      try simp only [Act.put, List.setIfInBounds_toArray, List.set_cons_zero, List.set_cons_succ]
      refine wpAnyL_take 9 (v := ?_) rfl rfl (by kernel_rfl) (by kernel_rfl) (by kernel_rfl) (by kernel_rfl) (fun _ _ _ h => h) (Or.inl ⟨by rfl, ?_⟩) hS ?_; rotate_left; · intro w hSw; obtain ⟨hz0, hz1, hz2, hz3⟩ := (HSI.out w).1 hSw; go_simp <;> with_reducible rfl
      try simp only [Act.put, List.setIfInBounds_toArray, List.set_cons_zero, List.set_cons_succ]
      refine wpAnyL_take 10 (v := ?_) rfl rfl (by kernel_rfl) (by kernel_rfl) (by kernel_rfl) (by kernel_rfl) (fun _ _ _ h => h) (Or.inl ⟨by rfl, ?_⟩) hS ?_; rotate_left; · intro w hSw; go_simp <;> with_reducible rfl
      try simp only [Act.put, List.setIfInBounds_toArray, List.set_cons_zero, List.set_cons_succ]
      refine wpAnyL_take 11 (v := ?_) rfl rfl (by kernel_rfl) (by kernel_rfl) (by kernel_rfl) (by kernel_rfl) (fun _ _ _ h => h) (Or.inl ⟨by rfl, ?_⟩) hS ?_; rotate_left; · intro w hSw; obtain ⟨hz0, hz1, hz2, hz3⟩ := (HSI.out w).1 hSw; go_simp <;> with_reducible rfl
      try simp only [Act.put, List.setIfInBounds_toArray, List.set_cons_zero, List.set_cons_succ]
      refine wpAnyL_take 12 (v := ?_) rfl rfl (by kernel_rfl) (by kernel_rfl) (by kernel_rfl) (by kernel_rfl) (fun _ _ _ h => h) (Or.inl ⟨by rfl, ?_⟩) hS ?_; rotate_left; · intro w hSw; go_simp <;> with_reducible rfl
      try simp only [Act.put, List.setIfInBounds_toArray, List.set_cons_zero, List.set_cons_succ]
      refine wpAnyL_one 13 rfl rfl (by kernel_rfl) ?_; intro K hK; rw [if_pos (by rfl)]
      go_simp
      have hS1 := (show Bx (wa.alloc (.cells #[.int .i64 (x2 : Int), .int .i64 (x3 : Int)] 94)).drew wr.heap.size _ from HXA.out.alloc _).three
      have hS2 := (HOA.out.alloc (.cells #[.int .i64 (x2 : Int), .int .i64 (x3 : Int)] 94)).drew.outer.cellAt x1 (by omega)
      rw [HU.out] at hS2
      refine hK.out _ _ (fun _ => (HSI.out _).2 ⟨hS1.1, hS1.2.1, hS1.2.2.1, hS2⟩) ?_; clear hK K
      have hS := (HSI.out _).2 ⟨hS1.1, hS1.2.1, hS1.2.2.1, hS2⟩
      try simp only [Act.put, List.setIfInBounds_toArray, List.set_cons_zero, List.set_cons_succ]
      refine wpAnyL_one 14 rfl rfl (by kernel_rfl) ?_; intro K hK; rw [if_pos (by rfl)]
      refine wp_app_op (.tmp 23) (.tmp 29) _ rfl (g + 1) 94 rfl inf_hop rfl (by decide) rfl (own_drew (hin1.alloc _)) rfl (news := [Value.int .i64 (x2 : Int), Value.int .i64 (x3 : Int)]) (sl_new wa [Value.int .i64 (x2 : Int), Value.int .i64 (x3 : Int)] 94).drew (by intro u hu; simp at hu; rcases hu with rfl | rfl <;> rfl) (by unfold maxLen; omega) (by omega) (Below.refl _ _) (by simp; omega) ?_
      intro p3 c3 w3 hown3 hb3 hs3 hg3 hnb3
      clear hS1 hS2 hS
      have HP := (HOA.out.alloc (.cells #[.int .i64 (x2 : Int), .int .i64 (x3 : Int)] 94)).drew.push HR.out HU.out hg3 (r' := r ++ [(x2, x3)]) (by rw [mcs_snoc]; exact hown3) (by simp) hnb3
      have hX3 : Bx w3 wr.heap.size [.int .i64 (x1 : Int), .int .i64 (x2 : Int), .int .i64 (x3 : Int)] := Bx.grown (w := (wa.alloc (.cells #[.int .i64 (x2 : Int), .int .i64 (x3 : Int)] 94)).drew) (HXA.out.alloc _) hg3 HFA.out
      have hS1 := hX3.three
      have hOo := own_grown (HOA.out.alloc (.cells #[.int .i64 (x2 : Int), .int .i64 (x3 : Int)] 94)).drew.outer hg3 HFO.out
      have hS2 := hOo.cellAt x1 (by omega)
      have hfz := hOo.frozenAt x1
      rw [HU.out] at hS2
      refine hK.out _ _ (fun _ => (HSI.out _).2 ⟨hS1.1, hS1.2.1, hS1.2.2.1, hS2⟩) ?_; clear hK K
      have hS := (HSI.out _).2 ⟨hS1.1, hS1.2.1, hS1.2.2.1, hS2⟩
      try simp only [Act.put, List.setIfInBounds_toArray, List.set_cons_zero, List.set_cons_succ]
      refine wpAnyL_take 15 (v := ?_) rfl rfl (by kernel_rfl) (by kernel_rfl) (by kernel_rfl) (by kernel_rfl) (fun _ _ _ h => h) (Or.inl ⟨by rfl, ?_⟩) hS ?_; rotate_left; · intro w hSw; go_simp <;> with_reducible rfl
      try simp only [Act.put, List.setIfInBounds_toArray, List.set_cons_zero, List.set_cons_succ]
      refine wpAnyL_one 16 rfl rfl (by kernel_rfl) ?_; intro K hK; rw [if_pos (by rfl)]
      go_simp
      refine hK.out _ _ (fun h => absurd rfl h) ?_; clear hK K
      refine wpAnyL_done (by kernel_rfl) ?_ _
      have hbZ : Below w.heap.size w w3 := (hbA.trans ((alloc_below wa (.cells #[.int .i64 (x2 : Int), .int .i64 (x3 : Int)] 94)).mono (by omega))).trans ((below_drew (Below.refl _ _)).trans (hb3.mono (by omega)))
      rw [← HRT.out] at HP
      clear hown3 hS1 hS2 hS hfz hX3 hOo
      go_wp2_with fail
      go_roundg (n - (k + 1))
      case measure => have := HGK.out; omega
      case rel => exact ⟨k + 1, _, by go_num, by omega, HP, hbZ.setCell (by simp; omega) _⟩
    · obtain rfl : k = n := by omega
      have hd1' : decide ((k : Int) < (k : Int)) = false := by simp
      have HM := hO.memM hgw
      rw [List.take_of_length_le (by have := HLN.out; omega)] at HM
      clear hO
      go_wp2_with fail
      go_ret
      exact ⟨g, rfl, HM, hgw, hgs, hb⟩
end Go.Proofs.Ytiaflhlfodcbjaa
