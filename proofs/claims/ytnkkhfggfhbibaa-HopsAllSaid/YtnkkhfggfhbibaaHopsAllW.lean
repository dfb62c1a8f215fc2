/- The walk of the law HopsAll. -/
import Derived.Test.YtnkkhfggfhbibaaGLaw
import Derived.Test.YtnkkhfggfhbibaaHeldL
import Derived.Test.YtnkkhfggfhbibaaHops
import Derived.Test.YtnkkhfggfhbibaaTimes
namespace Go.Proofs.Ytnkkhfggfhbibaa
open Go.RowKit
theorem own_grown {w w' : World} {B : Nat} {e : TypeId} {size : Nat} {v : Value} {n : Nat} {xs : List Value} {o : Option Nat} (h : w.ownsRow B e size v n xs) (hg : w.grownBy w' o) (ho : ∀ k, v.ownBlock = some k → o ≠ some k) : w'.ownsRow B e size v n xs := by
  refine ⟨h.1, ?_⟩
  rcases h.2 with hn | ⟨g, cap, cur, rfl, h1, h2, h3⟩
  · exact .inl hn
  · exact .inr ⟨g, cap, cur, rfl, h1, by rw [hg.block g (Array.getElem?_eq_some_iff.1 h2).1 (fun e => ho g rfl e.symm)]; exact h2, h3⟩
theorem hops_take_succ {l : List (Nat × Nat)} {i k : Nat} (h : i < l.length) : (l.take (i + 1)).map (fun h => (k, h)) = (l.take i).map (fun h => (k, h)) ++ [(k, l[i])] := by
  rw [List.take_succ_eq_append_getElem h, List.map_append]; rfl
set_option maxHeartbeats 8000000 in
set_option maxRecDepth 100000 in
theorem hopsAll_walk (w : World) (a0 : Int) (ha0 : -9223372036854775808 ≤ a0) (ha1 : a0 ≤ 9223372036854775807) (v1 : Value) (l1 : List (List Int)) (h1 : IsR 3 w v1 l1) :
    Calls Try.prog 8 #[.int .i64 a0, v1] w fun e w' => e = .returned (.bool true) ∧ Below w.heap.size w w' := by
  obtain ⟨p1, c1, rfl⟩ := h1.val
  have HM := Lib.hid (made_ok a0 p1 c1 _ l1 8 w ha0 ha1 h1 (by omega) (by omega))
  have hpk := pickN_lt a0 (m := 8) (by decide)
  clear h1 ha0 ha1
  obtain ⟨N, hN⟩ : ∃ N, N = 1 + pickN a0 8 := ⟨_, rfl⟩
  rw [← hN] at HM
  have hN200 : N ≤ 200 := by omega
  have hG := Lib.hid (edgesL_in N l1 (by omega))
  have hn10 := edgesL_len N l1
  clear hN hpk
  generalize edgesL N l1 = E at *
  obtain ⟨n, hn⟩ : ∃ n, n = E.length := ⟨_, rfl⟩
  rw [← hn] at HM hn10
  have HN := Lib.hid hn
  clear hn
  go_enter Try.func8, Try.ntmps8
  go_wp2_with fail
  refine HM.out.mono ?_; rintro e w1 ⟨q1, d1, rfl, ho1, hb1⟩
  have HS1 := Lib.hid (Sl.of_own ho1)
  have hz1 := hb1.size
  clear ho1
  go_wp2_with fail
  refine (sortedG_ok N n d1 q1 E _ (HS1.out.later (alloc_below w1 _)) hG.out hN200 (by omega)).mono ?_; rintro e w2 ⟨q2, d2, rfl, ho2, hb2⟩
  obtain ⟨b12, X5, hz2⟩ := boxed (cs := [.int .i64 (N : Int), .slice q1 n d1]) hb2
  have hHG := Lib.hid (fun k W (hk : k < N) (h : Below w2.heap.size w2 W) => hopsG_ok N n d1 k q1 E W ((HS1.out.later b12).later h) hG.out hN200 (by omega) hk)
  have hST := Lib.hid (fun k => filter_lt_succ k (srt cfE E) (srtE_from E))
  have hHE := Lib.hid (fun k => hops_edges (srt cfE E) k)
  have hF0 := Lib.hid (filter_none (srt cfE E))
  have hFN := Lib.hid (filter_all hG.out.srt)
  have hTL : (srt cfE E).length = n := by rw [srt_len]; exact HN.out.symm
  have HTL := Lib.hid hTL
  have HS2 := Lib.hid (Sl.of_own ho2)
  clear ho2 hb2 hTL
  generalize srt cfE E = T at *
  have hbw := hb1.trans (b12.mono hz1)
  obtain ⟨c1a, c1b, c1c⟩ := boxed0 w2 [.int .i64 (N : Int), .slice q2 n d2] 25
  obtain ⟨c2a, c2b, c2c⟩ := boxed0 (w2.alloc (.cells #[.int .i64 (N : Int), .slice q2 n d2] 25)) [.int .i64 (N : Int), .slice none 0 0] 25
  have e2 : (w2.alloc (.cells #[.int .i64 (N : Int), .slice q2 n d2] 25)).heap.size = w2.heap.size + 1 := by simp
  have X5a := X5.next c1a
  have X5b := X5a.next c2a
  have X6 := c1b.next c2a
  have b2W : Below w2.heap.size w2 ((w2.alloc (.cells #[.int .i64 (N : Int), .slice q2 n d2] 25)).alloc (.cells #[.int .i64 (N : Int), .slice none 0 0] 25)) := c1a.trans (c2a.mono (by omega))
  rw [e2] at c2b
  have hzW : ((w2.alloc (.cells #[.int .i64 (N : Int), .slice q2 n d2] 25)).alloc (.cells #[.int .i64 (N : Int), .slice none 0 0] 25)).heap.size = w2.heap.size + 1 + 1 := by simp
  obtain ⟨hy0, hy1, _, _⟩ := X5a.two
  clear c1a c1b c1c c2a c2c e2 X5 X5a hb1 b12 hz1
  go_wp2_with fail
  clear hy0 hy1
  have HX5 := Lib.hid X5b
  have HX6 := Lib.hid X6
  have HX8 := c2b
  clear X5b X6 c2b
  have hzw : w1.heap.size < w2.heap.size := by omega
  have hB0 : w.heap.size ≤ w2.heap.size := hbw.size
  obtain ⟨B, hB⟩ : ∃ B, B = w2.heap.size + 1 := ⟨_, rfl⟩
  rw [← hB] at HX8 hzW ⊢
  have hB1 : w2.heap.size < B := by omega
  have HZW := Lib.hid hzW
  clear hB hzW
  generalize ((w2.alloc (.cells #[.int .i64 (N : Int), .slice q2 n d2] 25)).alloc (.cells #[.int .i64 (N : Int), .slice none 0 0] 25)) = W2 at *
  go_loopg [9, 10, 11, 12] N (fun gk v9 v10 v11 v12 wr => ∃ (k : Nat) (p' : Option Addr) (c' : Nat), v9 = .int .i64 (k : Int) ∧ k + gk = N ∧ Bx wr B [.int .i64 (N : Int), .slice p' (T.filter fun e => decide (e.1 < k)).length c'] ∧ wr.ownsRow (B + 1) 33 3 (.slice p' (T.filter fun e => decide (e.1 < k)).length c') (T.filter fun e => decide (e.1 < k)).length (ecs (T.filter fun e => decide (e.1 < k))) ∧ Below B W2 wr ∧ B + 1 ≤ wr.heap.size)
  case atStart =>
    refine ⟨0, none, 0, rfl, by omega, ?_, ?_, Below.refl _ _, by rw [HZW.out]; omega⟩
    · rw [hF0.out]; exact HX8
    · rw [hF0.out]; exact World.ownsRow_nil _ _ _ _
  case round =>
    clear HX8
    obtain ⟨k, p', c', rfl, hgk, HX8, hown, hb, hsz⟩ := hrel
    have HGK := Lib.hid hgk
    have hk : k ≤ N := by omega
    clear hgk
    have hb2 := b2W.trans (hb.mono (by omega))
    have X5 := HX5.out.later hb (by omega)
    obtain ⟨hy0, hy1, _, _⟩ := X5.two
    have hfl : (T.filter fun e => decide (e.1 < k)).length ≤ n := by have := HTL.out; have := List.length_filter_le (fun e : Eg => decide (e.1 < k)) T; omega
    by_cases hlt : k < N
    · have hST := Lib.hid (hST.out k)
      have hHE := Lib.hid (hHE.out k)
      have hHG := Lib.hid (hHG.out k wr hlt hb2)
      have hHl : (hopsL T k).length ≤ n := by
        have := HTL.out
        have h2 := List.length_filter_le (fun e : Eg => e.1 == k) T
        unfold hopsL; rw [List.length_map]; omega
      generalize hopsL T k = H at *
      have hk0 : (0 : Int) ≤ (k : Int) := by omega
      have hkn : (k : Int) < (N : Int) := by omega
      have hd1' : decide ((k : Int) < (N : Int)) = true := by simp; omega
      have hd2' : decide (k < N) = true := by simp; omega
      go_wp2_with fail
      clear hy0 hy1
      refine hHG.out.mono ?_; rintro e w5 ⟨q5, d5, rfl, ho5, hb5⟩
      have HH := Lib.hid ho5
      have hhb : ∀ g, (Value.slice q5 H.length d5).ownBlock = some g → wr.heap.size ≤ g := fun g hg => (ho5.lt g hg).1
      have hfar : ∀ g, (Value.slice q5 H.length d5).ownBlock = some g → (Value.slice p' (T.filter fun e => decide (e.1 < k)).length c').ownBlock ≠ some g := fun g hg he => by
        have := hhb g hg; have := (hown.lt g he).2; omega
      have hz5 := hb5.size
      have hcap5 := (Sl.of_own ho5).mlen.2
      have hb5W := hb.trans (hb5.mono (by omega))
      have hX8' := HX8.later hb5 (by omega)
      have hown' := own_later hown hb5
      have hfl2 : ((T.filter fun e => decide (e.1 < k)) ++ H.map (fun h => (k, h))) = T.filter fun e => decide (e.1 < k + 1) := by rw [hHE.out]; exact hST.out.symm
      have HFL := Lib.hid hfl2
      clear ho5 hfl2 HX8 hown hST hHE
      generalize (T.filter fun e => decide (e.1 < k)) = F at *
      obtain ⟨f, hf⟩ : ∃ f, f = F.length := ⟨_, rfl⟩
      rw [← hf] at hfar hX8' hown' hfl
      have HF := Lib.hid hf
      clear hf
      go_wp2_with fail
      obtain ⟨wo, rfl⟩ : ∃ wo : World, wo = wr := ⟨_, rfl⟩
      go_loopg [12] H.length (fun gi v12 wr => ∃ (i : Nat) (p' : Option Addr) (c' : Nat), v12 = .int .i64 (i : Int) ∧ i + gi = H.length ∧ Bx wr B [.int .i64 (N : Int), .slice p' (f + i) c'] ∧ wr.ownsRow (B + 1) 33 3 (.slice p' (f + i) c') (f + i) (ecs (F ++ (H.take i).map (fun h => (k, h)))) ∧ Below B W2 wr ∧ wr.ownsRow wo.heap.size 64 2 (.slice q5 H.length d5) H.length (mcs H) ∧ (∀ g, (Value.slice q5 H.length d5).ownBlock = some g → (Value.slice p' (f + i) c').ownBlock ≠ some g) ∧ B + 1 ≤ wr.heap.size)
      case atStart => exact ⟨0, p', c', rfl, by omega, hX8', by rw [List.take_zero, List.map_nil, List.append_nil]; exact hown', hb5W, HH.out, hfar, by omega⟩
      case round =>
        clear hX8' hown' hb5W hfar
        obtain ⟨i, p', c', rfl, hgi, HX8, hown, hbi, hh, hfar, hsi⟩ := hrel
        have HGI := Lib.hid hgi
        have hi : i ≤ H.length := by omega
        clear hgi
        by_cases hil : i < H.length
        · have hts := Lib.hid (hops_take_succ (k := k) hil)
          have HD := Lib.hid (fun W (h : Sl W 2 (.slice q5 H.length d5) H.length (mcs H)) => h.mail hil)
          obtain ⟨b, off, rfl, hc0, hc1⟩ := HD.out wr (Sl.of_own hh)
          have HD := Lib.hid (fun W (h : Sl W 2 (.slice (some ⟨b, off, none⟩) H.length d5) H.length (mcs H)) => (show W.cell? ⟨b, off + i * 2, none⟩ = some (.int .i64 (H[i].1 : Int)) ∧ W.cell? ⟨b, off + i * 2 + 1, none⟩ = some (.int .i64 (H[i].2 : Int)) from by obtain ⟨b', off', he, h0, h1⟩ := h.mail hil; cases he; exact ⟨h0, h1⟩))
          have hbw5 : b < wr.heap.size := World.block_lt_of_cell? wr _ hc0
          have HC := Lib.hid (fun (W : World) (h : Below wr.heap.size wr W) => (⟨(h.cell (p := ⟨b, off + i * 2, none⟩) hbw5).trans hc0, (h.cell (p := ⟨b, off + i * 2 + 1, none⟩) hbw5).trans hc1⟩ : W.cell? ⟨b, off + i * 2, none⟩ = some _ ∧ W.cell? ⟨b, off + i * 2 + 1, none⟩ = some _))
          generalize H[i] = x at hts HD HC hc0 hc1
          obtain ⟨t1, t2⟩ := x
          dsimp only at hts HD HC hc0 hc1
          have HX8 := Lib.hid HX8
          obtain ⟨_, hg1, _, hfr1⟩ := HX8.out.two
          have hi0 : (0 : Int) ≤ (i : Int) := by omega
          have hin : (i : Int) < (H.length : Int) := by omega
          have hd3' : decide ((i : Int) < (H.length : Int)) = true := by simp; omega
          have hd4' : decide (i < H.length) = true := by simp; omega
          have hF8 := own_far hown (g := B) (by omega)
          have hne := fun g hg => hfar g hg
          go_upto_region 13 with fail
          obtain ⟨S, hSI⟩ : ∃ S : World → Prop, ∀ w', S w' ↔ (w'.cell? ⟨b, off + i * 2, none⟩ = some (Value.int .i64 (t1 : Int)) ∧ w'.cell? ⟨b, off + i * 2 + 1, none⟩ = some (Value.int .i64 (t2 : Int)) ∧ w'.cell? ⟨B, 1, none⟩ = some (Value.slice p' (f + i) c')) := ⟨fun w' => _, fun w' => Iff.rfl⟩
          have HSI := Lib.hid hSI
          clear hSI
          have HNE := Lib.hid hne
          clear hne hfar
          refine wp_region_L S 17 (by kernel_rfl) ((HSI.out _).2 ⟨hc0, hc1, hg1⟩) (fun hS => ?_)
          refine wpAnyL_take 0 (v := ?_) rfl rfl (by kernel_rfl) (by kernel_rfl) (by kernel_rfl) (by kernel_rfl) (fun _ _ _ h => h) (Or.inl ⟨by rfl, ?_⟩) hS ?_; rotate_left; · intro w hSw; go_simp <;> with_reducible rfl
          try simp only [Act.put, List.setIfInBounds_toArray, List.set_cons_zero, List.set_cons_succ]
          refine wpAnyL_take 1 (v := ?_) rfl rfl (by kernel_rfl) (by kernel_rfl) (by kernel_rfl) (by kernel_rfl) (fun _ _ _ h => h) (Or.inl ⟨by rfl, ?_⟩) hS ?_; rotate_left; · intro w hSw; obtain ⟨hz0, hz1, hz2⟩ := (HSI.out w).1 hSw; go_simp <;> with_reducible rfl
          try simp only [Act.put, List.setIfInBounds_toArray, List.set_cons_zero, List.set_cons_succ]
          refine wpAnyL_take 2 (v := ?_) rfl rfl (by kernel_rfl) (by kernel_rfl) (by kernel_rfl) (by kernel_rfl) (fun _ _ _ h => h) (Or.inl ⟨by rfl, ?_⟩) hS ?_; rotate_left; · intro w hSw; go_simp <;> with_reducible rfl
          try simp only [Act.put, List.setIfInBounds_toArray, List.set_cons_zero, List.set_cons_succ]
          refine wpAnyL_take 3 (v := ?_) rfl rfl (by kernel_rfl) (by kernel_rfl) (by kernel_rfl) (by kernel_rfl) (fun _ _ _ h => h) (Or.inl ⟨by rfl, ?_⟩) hS ?_; rotate_left; · intro w hSw; go_simp <;> with_reducible rfl
          try simp only [Act.put, List.setIfInBounds_toArray, List.set_cons_zero, List.set_cons_succ]
          refine wpAnyL_take 4 (v := ?_) rfl rfl (by kernel_rfl) (by kernel_rfl) (by kernel_rfl) (by kernel_rfl) (fun _ _ _ h => h) (Or.inl ⟨by rfl, ?_⟩) hS ?_; rotate_left; · intro w hSw; go_simp <;> with_reducible rfl
          try simp only [Act.put, List.setIfInBounds_toArray, List.set_cons_zero, List.set_cons_succ]
          refine wpAnyL_take 5 (v := ?_) rfl rfl (by kernel_rfl) (by kernel_rfl) (by kernel_rfl) (by kernel_rfl) (fun _ _ _ h => h) (Or.inl ⟨by rfl, ?_⟩) hS ?_; rotate_left; · intro w hSw; go_simp <;> with_reducible rfl
          try simp only [Act.put, List.setIfInBounds_toArray, List.set_cons_zero, List.set_cons_succ]
          refine wpAnyL_take 6 (v := ?_) rfl rfl (by kernel_rfl) (by kernel_rfl) (by kernel_rfl) (by kernel_rfl) (fun _ _ _ h => h) (Or.inl ⟨by rfl, ?_⟩) hS ?_; rotate_left; · intro w hSw; go_simp <;> with_reducible rfl
          try simp only [Act.put, List.setIfInBounds_toArray, List.set_cons_zero, List.set_cons_succ]
          refine wpAnyL_take 7 (v := ?_) rfl rfl (by kernel_rfl) (by kernel_rfl) (by kernel_rfl) (by kernel_rfl) (fun _ _ _ h => h) (Or.inl ⟨by rfl, ?_⟩) hS ?_; rotate_left; · intro w hSw; obtain ⟨hz0, hz1, hz2⟩ := (HSI.out w).1 hSw; go_simp <;> with_reducible rfl
          try simp only [Act.put, List.setIfInBounds_toArray, List.set_cons_zero, List.set_cons_succ]
          refine wpAnyL_take 8 (v := ?_) rfl rfl (by kernel_rfl) (by kernel_rfl) (by kernel_rfl) (by kernel_rfl) (fun _ _ _ h => h) (Or.inl ⟨by rfl, ?_⟩) hS ?_; rotate_left; · intro w hSw; go_simp <;> with_reducible rfl
          try simp only [Act.put, List.setIfInBounds_toArray, List.set_cons_zero, List.set_cons_succ]
          refine wpAnyL_take 9 (v := ?_) rfl rfl (by kernel_rfl) (by kernel_rfl) (by kernel_rfl) (by kernel_rfl) (fun _ _ _ h => h) (Or.inl ⟨by rfl, ?_⟩) hS ?_; rotate_left; · intro w hSw; go_simp <;> with_reducible rfl
          try simp only [Act.put, List.setIfInBounds_toArray, List.set_cons_zero, List.set_cons_succ]
          refine wpAnyL_take 10 (v := ?_) rfl rfl (by kernel_rfl) (by kernel_rfl) (by kernel_rfl) (by kernel_rfl) (fun _ _ _ h => h) (Or.inl ⟨by rfl, ?_⟩) hS ?_; rotate_left; · intro w hSw; go_simp <;> with_reducible rfl
          try simp only [Act.put, List.setIfInBounds_toArray, List.set_cons_zero, List.set_cons_succ]
          refine wpAnyL_take 11 (v := ?_) rfl rfl (by kernel_rfl) (by kernel_rfl) (by kernel_rfl) (by kernel_rfl) (fun _ _ _ h => h) (Or.inl ⟨by rfl, ?_⟩) hS ?_; rotate_left; · intro w hSw; go_simp <;> with_reducible rfl
          try simp only [Act.put, List.setIfInBounds_toArray, List.set_cons_zero, List.set_cons_succ]
          refine wpAnyL_take 12 (v := ?_) rfl rfl (by kernel_rfl) (by kernel_rfl) (by kernel_rfl) (by kernel_rfl) (fun _ _ _ h => h) (Or.inl ⟨by rfl, ?_⟩) hS ?_; rotate_left; · intro w hSw; obtain ⟨hz0, hz1, hz2⟩ := (HSI.out w).1 hSw; go_simp <;> with_reducible rfl
          try simp only [Act.put, List.setIfInBounds_toArray, List.set_cons_zero, List.set_cons_succ]
          refine wpAnyL_take 13 (v := ?_) rfl rfl (by kernel_rfl) (by kernel_rfl) (by kernel_rfl) (by kernel_rfl) (fun _ _ _ h => h) (Or.inl ⟨by rfl, ?_⟩) hS ?_; rotate_left; · intro w hSw; go_simp <;> with_reducible rfl
          try simp only [Act.put, List.setIfInBounds_toArray, List.set_cons_zero, List.set_cons_succ]
          refine wpAnyL_one 14 rfl rfl (by kernel_rfl) ?_; intro K hK; rw [if_pos (by rfl)]
          go_simp
          have hb1 : Below wr.heap.size wr (wr.alloc (.cells #[.int .i64 (k : Int), .int .i64 (t1 : Int), .int .i64 (t2 : Int)] 33)).drew := below_drew (alloc_below wr _)
          have hS1 := HC.out _ hb1
          have hS2 := (show Bx (wr.alloc (.cells #[.int .i64 (k : Int), .int .i64 (t1 : Int), .int .i64 (t2 : Int)] 33)).drew B _ from HX8.out.alloc _).two
          refine hK.out _ _ (fun _ => (HSI.out _).2 ⟨hS1.1, hS1.2, hS2.2.1⟩) ?_; clear hK K
          have hS := (HSI.out _).2 ⟨hS1.1, hS1.2, hS2.2.1⟩
          try simp only [Act.put, List.setIfInBounds_toArray, List.set_cons_zero, List.set_cons_succ]
          refine wpAnyL_one 15 rfl rfl (by kernel_rfl) ?_; intro K hK; rw [if_pos (by rfl)]
          refine wp_app_op (.tmp 45) (.tmp 58) _ rfl (B + 1) 33 rfl inf_edge rfl (by decide) rfl (own_drew (hown.alloc _)) rfl (news := [Value.int .i64 (k : Int), Value.int .i64 (t1 : Int), Value.int .i64 (t2 : Int)]) (sl_new wr [Value.int .i64 (k : Int), Value.int .i64 (t1 : Int), Value.int .i64 (t2 : Int)] 33).drew (by intro u hu; simp at hu; rcases hu with rfl | rfl | rfl <;> rfl) (by unfold maxLen; omega) (by omega) (Below.refl _ _) (by simp; omega) ?_
          intro p3 c3 w3 hown3 hb3 hs3 hg3 hnb3
          have HY8 : Bx w3 B [.int .i64 (N : Int), .slice p' (f + i) c'] := Bx.grown (w := (wr.alloc _).drew) (HX8.out.alloc _) hg3 hF8
          have hh3 := own_grown (own_drew (hh.alloc (.cells #[.int .i64 (k : Int), .int .i64 (t1 : Int), .int .i64 (t2 : Int)] 33))) hg3 HNE.out
          have hS1 := HD.out _ (Sl.of_own hh3)
          obtain ⟨hu0, hu1, hv0, hv1⟩ := HY8.two
          refine hK.out _ _ (fun _ => (HSI.out _).2 ⟨hS1.1, hS1.2, hu1⟩) ?_; clear hK K
          have hS := (HSI.out _).2 ⟨hS1.1, hS1.2, hu1⟩
          try simp only [Act.put, List.setIfInBounds_toArray, List.set_cons_zero, List.set_cons_succ]
          refine wpAnyL_take 16 (v := ?_) rfl rfl (by kernel_rfl) (by kernel_rfl) (by kernel_rfl) (by kernel_rfl) (fun _ _ _ h => h) (Or.inl ⟨by rfl, ?_⟩) hS ?_; rotate_left; · intro w hSw; go_simp <;> with_reducible rfl
          try simp only [Act.put, List.setIfInBounds_toArray, List.set_cons_zero, List.set_cons_succ]
          refine wpAnyL_one 17 rfl rfl (by kernel_rfl) ?_; intro K hK; rw [if_pos (by rfl)]
          go_simp
          refine hK.out _ _ (fun h => absurd rfl h) ?_; clear hK K
          refine wpAnyL_done (by kernel_rfl) ?_ _
          have hown2 : w3.ownsRow (B + 1) 33 3 (.slice p3 (f + (i + 1)) c3) (f + (i + 1)) (ecs (F ++ (H.take (i + 1)).map (fun h => (k, h)))) := by
            rw [hts.out, ← List.append_assoc, ecs_snoc]; exact hown3
          have hfar2 : ∀ g, (Value.slice (some ⟨b, off, none⟩) H.length d5).ownBlock = some g → (Value.slice p3 (f + i + 1) c3).ownBlock ≠ some g := fun g hg he => by
            rcases hnb3 with h | h
            · exact HNE.out g hg (h.symm.trans he)
            · have h7 := (hh.lt g hg).2
              have h8 := Option.some.inj (h.symm.trans he)
              simp at h8
              omega
          have HFR := Lib.hid hfar2
          have hbZ : Below B W2 w3 := hbi.trans ((hb1.mono (by omega)).trans (hb3.mono (by omega)))
          clear hown3 hS1 hS2 hu0 hu1 hv0 hv1 hS hc0 hc1 hg1 hfr1 hfar2 hnb3
          go_wp2_with fail
          go_roundg (H.length - (i + 1))
          case measure => have := HGI.out; omega
          case rel => exact ⟨i + 1, p3, c3, by go_num, by omega, bx_set1 HY8 _, own_setCell hown2 (by simp) _, hbZ.setCell (by simp) _, own_setCell hh3 (by simp; omega) _, HFR.out, by simp; omega⟩
        · obtain rfl : i = H.length := by omega
          have hd3' : decide ((H.length : Int) < (H.length : Int)) = false := by simp
          rw [List.take_length, HFL.out] at hown
          have hl2 : f + H.length = (T.filter fun e => decide (e.1 < k + 1)).length := by
            rw [← HFL.out, List.length_append, List.length_map, HF.out]
          rw [hl2] at hown HX8
          go_wp2_with fail
          go_roundg (N - (k + 1))
          case measure => have := HGK.out; omega
          case rel => exact ⟨k + 1, p', c', by go_num, by omega, HX8, hown, hbi, hsi⟩
    · obtain rfl : k = N := by omega
      have hd1' : decide ((k : Int) < (k : Int)) = false := by simp
      obtain ⟨hx0, hx1, _, _⟩ := HX8.two
      obtain ⟨hw0, hw1, _, _⟩ := (HX6.out.later hb hB1).two
      rw [hFN.out] at hown hx1
      have hSG := Lib.hid (sameGraph_ok k T.length c' n d2 p' q2 T wr (Sl.of_own hown) (HS2.out.later hb2))
      clear hown HX8 X5 hfl
      go_wp2_with (go_at_call 26; refine hSG.out.mono ?_; rintro e w6 ⟨rfl, hb6⟩)
      go_ret
      exact ⟨rfl, (hbw.trans (hb2.mono (by omega))).trans (hb6.mono (by omega))⟩
end Go.Proofs.Ytnkkhfggfhbibaa
