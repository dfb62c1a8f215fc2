/- The walk of pacelinekeep.made: a graph of raw numbers. -/
import Derived.Test.YtiaflhlfodcbjaaEdge
import Derived.Test.YtiaflhlfodcbjaaHeldL
namespace Go.Proofs.Ytiaflhlfodcbjaa
open Go.RowKit
set_option maxHeartbeats 1000000 in
set_option maxRecDepth 100000 in
theorem made_ok (x : Int) (p : Option Addr) (c n : Nat) (raw : List (List Int)) (most : Nat) (w : World) (hx0 : -9223372036854775808 ≤ x) (hx1 : x ≤ 9223372036854775807) (hl : IsR 3 w (.slice p n c) raw) (hm0 : 1 ≤ most) (hm : most ≤ 100) :
    Calls Try.prog 19 #[.int .i64 x, .slice p n c, .int .i64 (most : Int)] w fun e w' => ∃ p' c', e = .returned (.agg #[.int .i64 ((1 + pickN x most : Nat) : Int), .slice p' (edgesL (1 + pickN x most) raw).length c']) ∧ w'.ownsRow w.heap.size 46 3 (.slice p' (edgesL (1 + pickN x most) raw).length c') (edgesL (1 + pickN x most) raw).length (ecs (edgesL (1 + pickN x most) raw)) ∧ Below w.heap.size w w' := by
  obtain ⟨rfl, hc1, hc2⟩ := hl.lens
  have HL := Lib.hid hl
  have hla : raw.length ≤ 9223372036854775807 := by omega
  clear hl hc1 hc2
  have HP0 := Lib.hid (fun W => picked_i x (most : Int) most W rfl hx0 hx1 hm0 (by omega))
  have hpk := pickN_lt x (m := most) hm0
  clear hx0 hx1
  generalize pickN x most = pk at *
  obtain ⟨N, hN⟩ : ∃ N, N = 1 + pk := ⟨_, rfl⟩
  rw [← hN]
  have hN1 : 1 ≤ N := by omega
  have hN100 : N ≤ 100 := by omega
  have HN := Lib.hid (show (1 : Int) + (pk : Int) = (N : Int) by omega)
  clear hN
  have hpl : (edgesL N raw).length = min 10 raw.length := by simp [edgesL]
  have hlm1 : (edgesL N raw).length ≤ 10 := by omega
  have hlm2 : (edgesL N raw).length ≤ raw.length := by omega
  have hlm3 : (edgesL N raw).length < raw.length → 10 ≤ (edgesL N raw).length := by omega
  clear hpl
  have hT : edgesL N raw = edgesL N raw := rfl
  have HTT : Hid (∀ k (h : k < raw.length), k < 10 → (edgesL N raw)[k]? = some (edgeOf N raw[k])) := Lib.hid fun k h h10 => by
    unfold edgesL
    rw [List.getElem?_map, List.getElem?_take_of_lt h10, List.getElem?_eq_getElem h]; rfl
  clear hT
  generalize edgesL N raw = T at *
  go_enter Try.func19, Try.ntmps19
  go_wp2_with (go_at_call 11; refine (HP0.out _).mono ?_; rintro e w' ⟨rfl, rfl⟩)
  rw [HN.out]
  have B6 := (bx_new w [.int .i64 0, .slice none 0 0] 25).alloc (.cells #[.int .i64 (N : Int), .slice none 0 0] 25)
  have B7 := bx_new (w.alloc (.cells #[.int .i64 0, .slice none 0 0] 25)) [.int .i64 (N : Int), .slice none 0 0] 25
  rw [show (w.alloc (.cells #[.int .i64 0, .slice none 0 0] 25)).heap.size = w.heap.size + 1 from by simp] at B7
  have hWW := ((Below.refl w.heap.size w).alloc (Nat.le_refl _) (.cells #[.int .i64 0, .slice none 0 0] 25)).alloc (by simp) (.cells #[.int .i64 (N : Int), .slice none 0 0] 25)
  have hsz : w.heap.size + 2 ≤ ((w.alloc (.cells #[.int .i64 0, .slice none 0 0] 25)).alloc (.cells #[.int .i64 (N : Int), .slice none 0 0] 25)).heap.size := by simp
  generalize ((w.alloc (.cells #[.int .i64 0, .slice none 0 0] 25)).alloc (.cells #[.int .i64 (N : Int), .slice none 0 0] 25)) = W at *
  go_loopg [8] T.length (fun gk v8 wr => ∃ (k : Nat) (p' : Option Addr) (c' : Nat), v8 = .int .i64 (k : Int) ∧ k + gk = T.length ∧ Bx wr w.heap.size [.int .i64 0, .slice none 0 0] ∧ Bx wr (w.heap.size + 1) [.int .i64 (N : Int), .slice p' k c'] ∧ wr.ownsRow (w.heap.size + 2) 46 3 (.slice p' k c') k (ecs (T.take k)) ∧ Below w.heap.size w wr ∧ w.heap.size + 2 ≤ wr.heap.size)
  case atStart => exact ⟨0, none, 0, rfl, by omega, B6, B7, World.ownsRow_nil _ _ _ _, hWW, hsz⟩
  case round =>
    clear B6 B7 hWW hsz
    obtain ⟨k, p', c', rfl, hgk, B6, B7, hown, hb, hsz⟩ := hrel
    have HGK := Lib.hid hgk
    have hk : k ≤ T.length := by omega
    clear hgk
    by_cases hlt : k < T.length
    · have hkl : k < raw.length := by omega
      have hkm2 : k < 10 := by omega
      have hTk := HTT.out k hkl hkm2
      have hrow := HL.out.2 _ (List.getElem_mem hkl)
      obtain ⟨hr2, hrb⟩ := hrow
      have h0 : (raw[k])[0]? = some ((raw[k]).getD 0 0) := by rw [List.getD_eq_getElem?_getD, List.getElem?_eq_getElem (by omega)]; rfl
      have h1 : (raw[k])[1]? = some ((raw[k]).getD 1 0) := by rw [List.getD_eq_getElem?_getD, List.getElem?_eq_getElem (by omega)]; rfl
      have h2 : (raw[k])[2]? = some ((raw[k]).getD 2 0) := by rw [List.getD_eq_getElem?_getD, List.getElem?_eq_getElem (by omega)]; rfl
      have hb0 := hrb _ (List.mem_of_getElem? h0)
      have hb1 := hrb _ (List.mem_of_getElem? h1)
      have hb2 := hrb _ (List.mem_of_getElem? h2)
      obtain ⟨b, off, rfl, hcw0⟩ := HL.out.get hkl h0
      obtain ⟨b', off', hbe, hcw1⟩ := HL.out.get hkl h1
      cases hbe
      obtain ⟨b', off', hbe, hcw2⟩ := HL.out.get hkl h2
      cases hbe
      have hbw : b < w.heap.size := World.block_lt_of_cell? w _ hcw0
      rw [Nat.add_zero] at hcw0
      rw [show off + (k * 3 + 1) = off + k * 3 + 1 from rfl] at hcw1
      rw [show off + (k * 3 + 2) = off + k * 3 + 1 + 1 from rfl] at hcw2
      have HC := Lib.hid (fun (W : World) (h : Below w.heap.size w W) => (⟨(h.cell (p := ⟨b, off + k * 3, none⟩) hbw).trans hcw0, (h.cell (p := ⟨b, off + k * 3 + 1, none⟩) hbw).trans hcw1, (h.cell (p := ⟨b, off + k * 3 + 1 + 1, none⟩) hbw).trans hcw2⟩ : W.cell? ⟨b, off + k * 3, none⟩ = some _ ∧ W.cell? ⟨b, off + k * 3 + 1, none⟩ = some _ ∧ W.cell? ⟨b, off + k * 3 + 1 + 1, none⟩ = some _))
      obtain ⟨hc0, hc1, hc2⟩ := HC.out wr hb
      unfold edgeOf at hTk
      generalize (raw[k]).getD 0 0 = x0 at hb0 hc0 hTk HC
      generalize (raw[k]).getD 1 0 = x1 at hb1 hc1 hTk HC
      generalize (raw[k]).getD 2 0 = x2 at hb2 hc2 hTk HC
      have HPX := Lib.hid (fun W => picked_i x0 (N : Int) N W rfl hb0.1 hb0.2 (by omega) (by omega))
      have HPY := Lib.hid (fun W => picked_i x1 (N : Int) N W rfl hb1.1 hb1.2 (by omega) (by omega))
      have HPZ := Lib.hid (fun W => picked_i x2 10 10 W rfl hb2.1 hb2.2 (by omega) (by omega))
      generalize pickN x0 N = X at HPX hTk
      generalize pickN x1 N = Y at HPY hTk
      generalize pickN x2 10 = Z at HPZ hTk
      have HTK := Lib.hid hTk
      have hd1 : decide ((k : Int) < (raw.length : Int)) = true := by simp <;> omega
      have hd2 : decide ((k : Int) < 10) = true := by simp <;> omega
      have hd3 : decide (k < raw.length) = true := by simp <;> omega
      have hd4 : decide (k < 10) = true := by simp <;> omega
      have hk0 : (0 : Int) ≤ (k : Int) := by omega
      have hk1 : (k : Int) < (raw.length : Int) := by omega
      obtain ⟨hg0, hg1, hf0, hf1⟩ := B7.two
      have HB6 := Lib.hid B6
      have HB7 := Lib.hid B7
      clear h0 h1 h2 hrb hr2 hTk hcw0 hcw1 hcw2 B6 B7
      go_upto_region 5 with fail
      have hF6 := own_far hown (g := w.heap.size) (by omega)
      have hF7 := own_far hown (g := w.heap.size + 1) (by omega)
      obtain ⟨S, hSI⟩ : ∃ S : World → Prop, ∀ w', S w' ↔ (w'.cell? ⟨b, off + k * 3, none⟩ = some (Value.int .i64 x0) ∧ w'.cell? ⟨b, off + k * 3 + 1, none⟩ = some (Value.int .i64 x1) ∧ w'.cell? ⟨b, off + k * 3 + 1 + 1, none⟩ = some (Value.int .i64 x2) ∧ w'.cell? ⟨w.heap.size + 1, 0, none⟩ = some (Value.int .i64 (N : Int)) ∧ w'.cell? ⟨w.heap.size + 1, 1, none⟩ = some (Value.slice p' k c')) := ⟨fun w' => _, fun w' => Iff.rfl⟩
      have HSI := Lib.hid hSI
      clear hSI
      refine wp_region_L S 28 (by kernel_rfl) ((HSI.out _).2 ⟨hc0, hc1, hc2, hg0, hg1⟩) (fun hS => ?_)
      refine wpAnyL_take 0 (v := ?_) rfl rfl (by kernel_rfl) (by kernel_rfl) (by kernel_rfl) (by kernel_rfl) (fun _ _ _ h => h) (Or.inl ⟨by rfl, ?_⟩) hS ?_; rotate_left; · intro w hSw; go_simp <;> with_reducible rfl
      simp only [Act.put, List.setIfInBounds_toArray, List.set_cons_zero, List.set_cons_succ]
      refine wpAnyL_take 1 (v := ?_) rfl rfl (by kernel_rfl) (by kernel_rfl) (by kernel_rfl) (by kernel_rfl) (fun _ _ _ h => h) (Or.inl ⟨by rfl, ?_⟩) hS ?_; rotate_left; · intro w hSw; obtain ⟨hz0, hz1, hz2, hz3, hz4⟩ := (HSI.out w).1 hSw; go_simp <;> with_reducible rfl
      simp only [Act.put, List.setIfInBounds_toArray, List.set_cons_zero, List.set_cons_succ]
      refine wpAnyL_take 2 (v := ?_) rfl rfl (by kernel_rfl) (by kernel_rfl) (by kernel_rfl) (by kernel_rfl) (fun _ _ _ h => h) (Or.inl ⟨by rfl, ?_⟩) hS ?_; rotate_left; · intro w hSw; go_simp <;> with_reducible rfl
      simp only [Act.put, List.setIfInBounds_toArray, List.set_cons_zero, List.set_cons_succ]
      refine wpAnyL_take 3 (v := ?_) rfl rfl (by kernel_rfl) (by kernel_rfl) (by kernel_rfl) (by kernel_rfl) (fun _ _ _ h => h) (Or.inl ⟨by rfl, ?_⟩) hS ?_; rotate_left; · intro w hSw; go_simp <;> with_reducible rfl
      simp only [Act.put, List.setIfInBounds_toArray, List.set_cons_zero, List.set_cons_succ]
      refine wpAnyL_take 4 (v := ?_) rfl rfl (by kernel_rfl) (by kernel_rfl) (by kernel_rfl) (by kernel_rfl) (fun _ _ _ h => h) (Or.inl ⟨by rfl, ?_⟩) hS ?_; rotate_left; · intro w hSw; go_simp <;> with_reducible rfl
      simp only [Act.put, List.setIfInBounds_toArray, List.set_cons_zero, List.set_cons_succ]
      refine wpAnyL_take 5 (v := ?_) rfl rfl (by kernel_rfl) (by kernel_rfl) (by kernel_rfl) (by kernel_rfl) (fun _ _ _ h => h) (Or.inl ⟨by rfl, ?_⟩) hS ?_; rotate_left; · intro w hSw; go_simp <;> with_reducible rfl
      simp only [Act.put, List.setIfInBounds_toArray, List.set_cons_zero, List.set_cons_succ]
      refine wpAnyL_take 6 (v := ?_) rfl rfl (by kernel_rfl) (by kernel_rfl) (by kernel_rfl) (by kernel_rfl) (fun _ _ _ h => h) (Or.inl ⟨by rfl, ?_⟩) hS ?_; rotate_left; · intro w hSw; obtain ⟨hz0, hz1, hz2, hz3, hz4⟩ := (HSI.out w).1 hSw; go_simp <;> with_reducible rfl
      simp only [Act.put, List.setIfInBounds_toArray, List.set_cons_zero, List.set_cons_succ]
      refine wpAnyL_take 7 (v := ?_) rfl rfl (by kernel_rfl) (by kernel_rfl) (by kernel_rfl) (by kernel_rfl) (fun _ _ _ h => h) (Or.inl ⟨by rfl, ?_⟩) hS ?_; rotate_left; · intro w hSw; go_simp <;> with_reducible rfl
      simp only [Act.put, List.setIfInBounds_toArray, List.set_cons_zero, List.set_cons_succ]
      refine wpAnyL_take 8 (v := ?_) rfl rfl (by kernel_rfl) (by kernel_rfl) (by kernel_rfl) (by kernel_rfl) (fun _ _ _ h => h) (Or.inl ⟨by rfl, ?_⟩) hS ?_; rotate_left; · intro w hSw; obtain ⟨hz0, hz1, hz2, hz3, hz4⟩ := (HSI.out w).1 hSw; go_simp <;> with_reducible rfl
      simp only [Act.put, List.setIfInBounds_toArray, List.set_cons_zero, List.set_cons_succ]
      refine wpAnyL_take 10 (v := ?_) rfl rfl (by kernel_rfl) (by kernel_rfl) (by kernel_rfl) (by kernel_rfl) (fun _ _ _ h => h) (Or.inl ⟨by rfl, ?_⟩) hS ?_; rotate_left; · intro w hSw; go_simp <;> with_reducible rfl
      simp only [Act.put, List.setIfInBounds_toArray, List.set_cons_zero, List.set_cons_succ]
      refine wpAnyL_take 11 (v := ?_) rfl rfl (by kernel_rfl) (by kernel_rfl) (by kernel_rfl) (by kernel_rfl) (fun _ _ _ h => h) (Or.inl ⟨by rfl, ?_⟩) hS ?_; rotate_left; · intro w hSw; go_simp <;> with_reducible rfl
      simp only [Act.put, List.setIfInBounds_toArray, List.set_cons_zero, List.set_cons_succ]
      refine wpAnyL_take 12 (v := ?_) rfl rfl (by kernel_rfl) (by kernel_rfl) (by kernel_rfl) (by kernel_rfl) (fun _ _ _ h => h) (Or.inl ⟨by rfl, ?_⟩) hS ?_; rotate_left; · intro w hSw; go_simp <;> with_reducible rfl
      simp only [Act.put, List.setIfInBounds_toArray, List.set_cons_zero, List.set_cons_succ]
      refine wpAnyL_take 13 (v := ?_) rfl rfl (by kernel_rfl) (by kernel_rfl) (by kernel_rfl) (by kernel_rfl) (fun _ _ _ h => h) (Or.inl ⟨by rfl, ?_⟩) hS ?_; rotate_left; · intro w hSw; go_simp <;> with_reducible rfl
      simp only [Act.put, List.setIfInBounds_toArray, List.set_cons_zero, List.set_cons_succ]
      refine wpAnyL_take 14 (v := ?_) rfl rfl (by kernel_rfl) (by kernel_rfl) (by kernel_rfl) (by kernel_rfl) (fun _ _ _ h => h) (Or.inl ⟨by rfl, ?_⟩) hS ?_; rotate_left; · intro w hSw; obtain ⟨hz0, hz1, hz2, hz3, hz4⟩ := (HSI.out w).1 hSw; go_simp <;> with_reducible rfl
      simp only [Act.put, List.setIfInBounds_toArray, List.set_cons_zero, List.set_cons_succ]
      refine wpAnyL_take 15 (v := ?_) rfl rfl (by kernel_rfl) (by kernel_rfl) (by kernel_rfl) (by kernel_rfl) (fun _ _ _ h => h) (Or.inl ⟨by rfl, ?_⟩) hS ?_; rotate_left; · intro w hSw; go_simp <;> with_reducible rfl
      simp only [Act.put, List.setIfInBounds_toArray, List.set_cons_zero, List.set_cons_succ]
      refine wpAnyL_take 16 (v := ?_) rfl rfl (by kernel_rfl) (by kernel_rfl) (by kernel_rfl) (by kernel_rfl) (fun _ _ _ h => h) (Or.inl ⟨by rfl, ?_⟩) hS ?_; rotate_left; · intro w hSw; obtain ⟨hz0, hz1, hz2, hz3, hz4⟩ := (HSI.out w).1 hSw; go_simp <;> with_reducible rfl
      simp only [Act.put, List.setIfInBounds_toArray, List.set_cons_zero, List.set_cons_succ]
      refine wpAnyL_take 18 (v := ?_) rfl rfl (by kernel_rfl) (by kernel_rfl) (by kernel_rfl) (by kernel_rfl) (fun _ _ _ h => h) (Or.inl ⟨by rfl, ?_⟩) hS ?_; rotate_left; · intro w hSw; go_simp <;> with_reducible rfl
      simp only [Act.put, List.setIfInBounds_toArray, List.set_cons_zero, List.set_cons_succ]
      refine wpAnyL_take 19 (v := ?_) rfl rfl (by kernel_rfl) (by kernel_rfl) (by kernel_rfl) (by kernel_rfl) (fun _ _ _ h => h) (Or.inl ⟨by rfl, ?_⟩) hS ?_; rotate_left; · intro w hSw; go_simp <;> with_reducible rfl
      simp only [Act.put, List.setIfInBounds_toArray, List.set_cons_zero, List.set_cons_succ]
      refine wpAnyL_take 20 (v := ?_) rfl rfl (by kernel_rfl) (by kernel_rfl) (by kernel_rfl) (by kernel_rfl) (fun _ _ _ h => h) (Or.inl ⟨by rfl, ?_⟩) hS ?_; rotate_left; · intro w hSw; go_simp <;> with_reducible rfl
      simp only [Act.put, List.setIfInBounds_toArray, List.set_cons_zero, List.set_cons_succ]
      refine wpAnyL_take 21 (v := ?_) rfl rfl (by kernel_rfl) (by kernel_rfl) (by kernel_rfl) (by kernel_rfl) (fun _ _ _ h => h) (Or.inl ⟨by rfl, ?_⟩) hS ?_; rotate_left; · intro w hSw; go_simp <;> with_reducible rfl
      simp only [Act.put, List.setIfInBounds_toArray, List.set_cons_zero, List.set_cons_succ]
      refine wpAnyL_take 22 (v := ?_) rfl rfl (by kernel_rfl) (by kernel_rfl) (by kernel_rfl) (by kernel_rfl) (fun _ _ _ h => h) (Or.inl ⟨by rfl, ?_⟩) hS ?_; rotate_left; · intro w hSw; obtain ⟨hz0, hz1, hz2, hz3, hz4⟩ := (HSI.out w).1 hSw; go_simp <;> with_reducible rfl
      simp only [Act.put, List.setIfInBounds_toArray, List.set_cons_zero, List.set_cons_succ]
      refine wpAnyL_one 9 rfl rfl (by kernel_rfl) ?_; intro K hK; rw [if_pos (by rfl)]
      go_simp
      refine (HPX.out _).mono ?_; rintro e w' ⟨rfl, rfl⟩
      refine hK.out _ _ (fun _ => hS) ?_; clear hK K
      try simp only [Act.put, List.setIfInBounds_toArray, List.set_cons_zero, List.set_cons_succ]
      refine wpAnyL_one 17 rfl rfl (by kernel_rfl) ?_; intro K hK; rw [if_pos (by rfl)]
      go_simp
      refine (HPY.out _).mono ?_; rintro e w' ⟨rfl, rfl⟩
      refine hK.out _ _ (fun _ => hS) ?_; clear hK K
      try simp only [Act.put, List.setIfInBounds_toArray, List.set_cons_zero, List.set_cons_succ]
      refine wpAnyL_one 23 rfl rfl (by kernel_rfl) ?_; intro K hK; rw [if_pos (by rfl)]
      go_simp
      refine (HPZ.out _).mono ?_; rintro e w' ⟨rfl, rfl⟩
      refine hK.out _ _ (fun _ => hS) ?_; clear hK K
      try simp only [Act.put, List.setIfInBounds_toArray, List.set_cons_zero, List.set_cons_succ]
      refine wpAnyL_take 24 (v := ?_) rfl rfl (by kernel_rfl) (by kernel_rfl) (by kernel_rfl) (by kernel_rfl) (fun _ _ _ h => h) (Or.inl ⟨by rfl, ?_⟩) hS ?_; rotate_left; · intro w hSw; go_simp <;> with_reducible rfl
      simp only [Act.put, List.setIfInBounds_toArray, List.set_cons_zero, List.set_cons_succ]
      refine wpAnyL_one 25 rfl rfl (by kernel_rfl) ?_; intro K hK; rw [if_pos (by rfl)]
      go_simp
      have hb1 : Below w.heap.size w (wr.alloc (.cells #[.int .i64 (X : Int), .int .i64 (Y : Int), .int .i64 (Z : Int)] 46)).drew := below_drew (hb.alloc (by omega) _)
      have hS1 := HC.out _ hb1
      have hS2 := (show Bx (wr.alloc (.cells #[.int .i64 (X : Int), .int .i64 (Y : Int), .int .i64 (Z : Int)] 46)).drew (w.heap.size + 1) _ from HB7.out.alloc _).two
      refine hK.out _ _ (fun _ => (HSI.out _).2 ⟨hS1.1, hS1.2.1, hS1.2.2, hS2.1, hS2.2.1⟩) ?_; clear hK K
      have hS := (HSI.out _).2 ⟨hS1.1, hS1.2.1, hS1.2.2, hS2.1, hS2.2.1⟩
      try simp only [Act.put, List.setIfInBounds_toArray, List.set_cons_zero, List.set_cons_succ]
      refine wpAnyL_one 26 rfl rfl (by kernel_rfl) ?_; intro K hK; rw [if_pos (by rfl)]
      refine wp_app_op (.tmp 25) (.tmp 49) _ rfl (w.heap.size + 2) 46 rfl inf_edge rfl (by decide) rfl (own_drew (hown.alloc _)) rfl (news := [Value.int .i64 (X : Int), Value.int .i64 (Y : Int), Value.int .i64 (Z : Int)]) (sl_new wr [Value.int .i64 (X : Int), Value.int .i64 (Y : Int), Value.int .i64 (Z : Int)] 46).drew (by intro u hu; simp at hu; rcases hu with rfl | rfl | rfl <;> rfl) (by unfold maxLen; omega) (by omega) (Below.refl _ _) (by simp; omega) ?_
      intro p3 c3 w3 hown3 hb3 hs3 hg3 _
      have HX7 : Bx w3 (w.heap.size + 1) [.int .i64 (N : Int), .slice p' k c'] := Bx.grown (w := (wr.alloc _).drew) (HB7.out.alloc _) hg3 hF7
      have HX6 : Bx w3 w.heap.size [.int .i64 0, .slice none 0 0] := Bx.grown (w := (wr.alloc _).drew) (HB6.out.alloc _) hg3 hF6
      have hbZ : Below w.heap.size w w3 := hb1.trans (hb3.mono (by omega))
      clear hS hS1 hS2
      have hS1 := HC.out _ hbZ
      obtain ⟨hu0, hu1, hv0, hv1⟩ := HX7.two
      refine hK.out _ _ (fun _ => (HSI.out _).2 ⟨hS1.1, hS1.2.1, hS1.2.2, hu0, hu1⟩) ?_; clear hK K
      have hS := (HSI.out _).2 ⟨hS1.1, hS1.2.1, hS1.2.2, hu0, hu1⟩
      try simp only [Act.put, List.setIfInBounds_toArray, List.set_cons_zero, List.set_cons_succ]
      refine wpAnyL_take 27 (v := ?_) rfl rfl (by kernel_rfl) (by kernel_rfl) (by kernel_rfl) (by kernel_rfl) (fun _ _ _ h => h) (Or.inl ⟨by rfl, ?_⟩) hS ?_; rotate_left; · intro w hSw; go_simp <;> with_reducible rfl
      try simp only [Act.put, List.setIfInBounds_toArray, List.set_cons_zero, List.set_cons_succ]
      refine wpAnyL_one 28 rfl rfl (by kernel_rfl) ?_; intro K hK; rw [if_pos (by rfl)]
      go_simp
      refine hK.out _ _ (fun h => absurd rfl h) ?_; clear hK K
      refine wpAnyL_done (by kernel_rfl) ?_ _
      have hown2 : w3.ownsRow (w.heap.size + 2) 46 3 (.slice p3 (k + 1) c3) (k + 1) (ecs (T.take (k + 1))) := by
        have e : T.take (k + 1) = T.take k ++ [(X, Y, Z)] := by rw [List.take_add_one, HTK.out]; rfl
        rw [e, ecs_snoc]
        exact hown3
      clear hown3 hS1 hu0 hu1 hv0 hv1 hS hc0 hc1 hc2 hg0 hg1 hf0 hf1
      go_wp2_with fail
      go_roundg (T.length - (k + 1))
      case measure => have := HGK.out; omega
      case rel => exact ⟨k + 1, p3, c3, by go_num, by omega, bx_oth HX6 (by simp) _, bx_set1 HX7 _, own_setCell hown2 (by simp) _, hbZ.setCell (by simp) _, by simp; omega⟩
    · obtain rfl : k = T.length := by omega
      rw [List.take_length] at hown
      obtain ⟨hg0, hg1, hf0, hf1⟩ := B7.two
      obtain ⟨ha0, ha1, hb0, hb1⟩ := B6.two
      by_cases hcl : T.length < raw.length
      · have hd1 : decide ((T.length : Int) < (raw.length : Int)) = true := by simp <;> omega
        have hd2 : decide ((T.length : Int) < 10) = false := by simp <;> omega
        have hd3 : decide (T.length < raw.length) = true := by simp <;> omega
        have hd4 : decide (T.length < 10) = false := by simp <;> omega
        clear hcl
        go_wp2_with fail
        refine bodyPost_ret (v := .agg #[.int .i64 (N : Int), .slice p' T.length c']) ?_ rfl ⟨p', c', rfl, ?_, ?_⟩
        · rw [results_cell1 rfl]
          go_simp
        · refine own_mono (base := w.heap.size + 2) ?_ (by omega)
          iterate 2 (refine own_setCell ?_ (by simp <;> omega) _)
          exact hown
        · iterate 2 (refine Below.setCell ?_ (by simp <;> omega) _)
          exact hb
      · have hd1 : decide ((T.length : Int) < (raw.length : Int)) = false := by simp <;> omega
        have hd3 : decide (T.length < raw.length) = false := by simp <;> omega
        clear hcl
        go_wp2_with fail
        refine bodyPost_ret (v := .agg #[.int .i64 (N : Int), .slice p' T.length c']) ?_ rfl ⟨p', c', rfl, ?_, ?_⟩
        · rw [results_cell1 rfl]
          go_simp
        · refine own_mono (base := w.heap.size + 2) ?_ (by omega)
          iterate 2 (refine own_setCell ?_ (by simp <;> omega) _)
          exact hown
        · iterate 2 (refine Below.setCell ?_ (by simp <;> omega) _)
          exact hb
end Go.Proofs.Ytiaflhlfodcbjaa
