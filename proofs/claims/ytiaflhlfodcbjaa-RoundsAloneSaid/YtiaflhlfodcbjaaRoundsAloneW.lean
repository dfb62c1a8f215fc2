/- The walk of the law RoundsAlone. -/
import Derived.Test.YtiaflhlfodcbjaaJobOf
import Derived.Test.YtiaflhlfodcbjaaPRndA
namespace Go.Proofs.Ytiaflhlfodcbjaa
open Go.RowKit
/-- the last pieces of a list of edges, as they lie in memory -/
theorem sl_tail {w : World} {b c n : Nat} {E : List Eg} (h : Sl w 3 (.slice (some ⟨b, 0, none⟩) n c) n (ecs E)) (k off' : Nat) (hk : k ≤ n) (ho : off' = k * 3 ∨ n = k) :
    Sl w 3 (.slice (some ⟨b, off', none⟩) (n - k) (c - k)) (n - k) (ecs (E.drop k)) := by
  obtain ⟨hn, hnc, hc63⟩ := h.elen
  obtain ⟨p', c2, hp, h1, h2, h3, h4, h5⟩ := h
  cases hp
  have hlen : (E.drop k).length = n - k := by rw [List.length_drop]; omega
  refine ⟨_, _, rfl, by omega, by omega, by rw [ecs_len, hlen], (fun h => by cases h), ?_⟩
  by_cases he : n = k
  · left
    rw [List.drop_eq_nil_of_le (by omega)]; rfl
  · right
    obtain rfl : off' = k * 3 := by rcases ho with h | h; exact h; exact absurd h he
    refine ⟨b, _, rfl, fun j u hj => ?_⟩
    rcases h5 with h5 | ⟨b', off, hp, h5⟩
    · have : E.length = 0 := by have := ecs_len E; rw [h5] at this; simp at this; omega
      omega
    · cases hp
      have hdrop : ecs E = ecs (E.take k) ++ ecs (E.drop k) := by rw [← ecs_append, List.take_append_drop]
      have := h5 (k * 3 + j) u (by
        rw [hdrop, List.getElem?_append_right (by rw [ecs_len, List.length_take]; omega), ecs_len, List.length_take, Nat.min_eq_left (by omega)]
        rw [show k * 3 + j - k * 3 = j by omega]
        exact hj)
      rw [Nat.zero_add] at this
      exact this
set_option maxHeartbeats 16000000 in
set_option maxRecDepth 100000 in
theorem roundsAlone_walk (w : World) (a0 : Int) (ha0 : -9223372036854775808 ≤ a0) (ha1 : a0 ≤ 9223372036854775807) (v1 : Value) (l1 : List (List Int)) (h1 : IsR 3 w v1 l1) (a2 : Int) (ha2 : -9223372036854775808 ≤ a2) (ha3 : a2 ≤ 9223372036854775807) (a3 : Int) (ha4 : -9223372036854775808 ≤ a3) (ha5 : a3 ≤ 9223372036854775807) (a4 : Int) (ha6 : -9223372036854775808 ≤ a4) (ha7 : a4 ≤ 9223372036854775807) :
    Calls Try.prog 5 #[.int .i64 a0, v1, .int .i64 a2, .int .i64 a3, .int .i64 a4] w fun e w' => e = .returned (.bool true) ∧ Below w.heap.size w w' := by
  obtain ⟨p1, c1, rfl⟩ := h1.val
  obtain ⟨N, hN⟩ : ∃ N, N = 1 + pickN a0 6 := ⟨_, rfl⟩
  obtain ⟨E, hE⟩ : ∃ E, E = edgesL N l1 := ⟨_, rfl⟩
  obtain ⟨kd, hkd⟩ : ∃ kd, kd = 1 + pickN a2 3 := ⟨_, rfl⟩
  obtain ⟨sr, hsr⟩ : ∃ sr, sr = pickN a3 N := ⟨_, rfl⟩
  have HJO := Lib.hid (jobOf_ok a0 a2 a3 p1 _ c1 N kd sr l1 E w ha0 ha1 ha2 ha3 ha4 ha5 h1 hN hE hkd hsr)
  have hpk := pickN_lt a0 (m := 6) (by decide)
  have hN6 : N ≤ 6 := by omega
  obtain ⟨n, hn⟩ : ∃ n, n = E.length := ⟨_, rfl⟩
  have hn10' := edgesL_len N l1
  rw [← hE, ← hn] at hn10'
  have HPK := Lib.hid (fun W => picked_i a4 ((n : Int) + 1) (n + 1) W (by omega) ha6 ha7 (by omega) (by omega))
  have hpm := pickN_lt a4 (m := n + 1) (by omega)
  generalize pickN a4 (n + 1) = t at HPK hpm
  clear h1 ha0 ha1 ha2 ha3 ha4 ha5 ha6 ha7 hN hE hkd hsr hpk
  rw [← hn] at HJO
  have HN := Lib.hid hn
  clear hn
  go_enter Try.func5, Try.ntmps5
  go_wp2_with fail
  refine HJO.out.mono ?_; rintro e w1 ⟨q, d, rfl, hj, hE10, hb1, hqs⟩
  obtain ⟨K, hK⟩ := runs_in (src := (sr : Int)) ⟨hj.k1, hj.k3⟩ hj.g ⟨hj.N1, hj.N10⟩
  have HRI := Lib.hid hK
  have HJ := Lib.hid hj
  have HB1 := Lib.hid hb1
  have HQS := Lib.hid hqs
  clear hj hb1 hK HJO hqs
  unfold jobV at *
  obtain ⟨b2, B2, z2⟩ := boxed0 w1 [.int .i64 (N : Int), .slice q n d, .int .i64 (kd : Int), .int .i64 (sr : Int)] 27
  go_upto_region 2 with fail
  obtain ⟨w2, hw2⟩ : ∃ w2 : World, w2 = w1.alloc (.cells #[.int .i64 (N : Int), .slice q n d, .int .i64 (kd : Int), .int .i64 (sr : Int)] 27) := ⟨_, rfl⟩
  obtain ⟨g2, hg2⟩ : ∃ g2, g2 = w1.heap.size := ⟨_, rfl⟩
  have e2 : (w1.alloc (.cells (List.toArray [Value.int .i64 (N : Int), .slice q n d, .int .i64 (kd : Int), .int .i64 (sr : Int)]) 27)) = w2 := hw2.symm
  rw [e2] at b2 B2 z2
  rw [← hg2] at B2
  rw [← hw2, ← hg2]
  have HJ2 := Lib.hid (HJ.out.later b2)
  have HJX := Lib.hid B2
  have HB2 := Lib.hid (HB1.out.trans (b2.mono HB1.out.size))
  clear hw2 hg2 e2 b2 B2 z2 HJ HB1
  obtain ⟨hx0, hx1, hx2, hx3, _⟩ := HJX.out.four
  obtain ⟨b3, B3, z3⟩ := boxed0 w2 [.int .i64 (N : Int), .slice q n d, .int .i64 (kd : Int), .int .i64 (sr : Int)] 27
  go_upto_region 3 with fail
  obtain ⟨w3, hw3⟩ : ∃ w3 : World, w3 = w2.alloc (.cells #[.int .i64 (N : Int), .slice q n d, .int .i64 (kd : Int), .int .i64 (sr : Int)] 27) := ⟨_, rfl⟩
  obtain ⟨g3, hg3⟩ : ∃ g3, g3 = w2.heap.size := ⟨_, rfl⟩
  have e3 : (w2.alloc (.cells (List.toArray [Value.int .i64 (N : Int), .slice q n d, .int .i64 (kd : Int), .int .i64 (sr : Int)]) 27)) = w3 := hw3.symm
  rw [e3] at b3 B3 z3
  have h23 : g2 < g3 := by rw [hg3]; exact HJX.out.lt
  rw [← hg3] at B3
  rw [← hw3, ← hg3]
  have HJ3 := Lib.hid (HJ2.out.later b3)
  have HJX3 := Lib.hid (HJX.out.next b3)
  have HKX3 := Lib.hid B3
  have HB3 := Lib.hid (HB2.out.trans (b3.mono HB2.out.size))
  have h2z : g3 < w3.heap.size := HKX3.out.lt
  have HG3 := Lib.hid (show w.heap.size ≤ g3 from by rw [hg3]; exact HB2.out.size)
  have HJS := Lib.hid (show ∀ (W : World), w3.grownBy W (some g3) → Sl W 3 (.slice q n d) n (ecs E) from fun W hW => HJ2.out.sl.later (b3.grown hW b3.size (fun k hk => by cases hk; rw [hg3]; exact Nat.le_refl _)))
  clear hw3 hg3 e3 b3 B3 z3 HJ2 HJX HB2 hx0 hx1 hx2 hx3
  obtain ⟨hx0, hx1, hx2, hx3, _⟩ := HJX3.out.four
  go_wp2_with fail
  refine (HPK.out _).mono ?_; rintro e w' ⟨rfl, rfl⟩
  have htn : t ≤ n := by omega
  have ht0 : (0 : Int) ≤ (t : Int) := by omega
  have ht1 : (t : Int) ≤ (n : Int) := by omega
  have HTN := Lib.hid htn
  go_upto_region 4 with fail
  go_cut [13] (fun s13 wx => ∃ (p6 : Option Addr) (c6 m : Nat), s13 = .int .i64 (t : Int) ∧ m = n - t + n ∧ Hid (Bx wx g3 [.int .i64 (N : Int), .slice p6 m c6, .int .i64 (kd : Int), .int .i64 (sr : Int)]) ∧ Hid (RdB wx (g3 + 1) 3 (.slice p6 m c6) m (ecs (E.drop t ++ E))) ∧ Hid (w3.grownBy wx (some g3)))
  case first =>
    rcases HQS.out with ⟨rfl, rfl⟩ | ⟨qb, rfl, hnd, hd63⟩
    · obtain rfl : n = 0 := by have h := HJ3.out.sl.elen.2.1; omega
      obtain rfl : t = 0 := by omega
      have HT2 := Lib.hid (fun (W : World) (hW : Below w3.heap.size w3 W) => HJ3.out.sl.later hW)
      have HE0 := Lib.hid (show E = [] from List.eq_nil_of_length_eq_zero HN.out.symm)
      have HT1 := Lib.hid (fun (W : World) (hW : Below w3.heap.size w3 W) => (show Sl W 3 (.slice none 0 0) 0 (ecs (E.drop 0)) from HT2.out W hW))
      go_region_held3 (fun w' => w'.cell? ⟨g2, 1, none⟩ = some (.slice none 0 0))
        (first | (exact hx1) | (exact below_cellOf HB5.out hx1) | (exact below_cellOf HB6.out hx1) | (exact (World.cell?_setCell_other _ _ _ _ (fun e => absurd (congrArg Addr.block e) (by intro h; simp only at h; omega))).trans (below_cellOf HB6.out hx1)) | go_keep)
        (first
          | (refine step_app (W := w3.drew) (w0 := w3) (n := 0) (xs := []) rfl (.const (.slice none 0 0)) (.tmp 37) _ rfl w3.heap.size 46 rfl inf_edge rfl (by decide) rfl (World.ownsRow_nil _ _ _ _) rfl (HT1.out _ (Below.refl _ w3).drew) (ecs_one _) (by unfold maxLen; omega) (by omega) (Below.refl _ w3).drew (Nat.le_refl _) ?_; rw [Nat.zero_add, List.nil_append]; intro p5 c5 w5 hown5 hb5 hs5 hg5 hnb5; have HB5 := Lib.hid hb5; have HOW5 := Lib.hid hown5; have HSZ5 := Lib.hid hs5; clear hb5 hs5 hown5 hg5 hnb5)
          | (refine step_app (W := w5) (w0 := w5) (n := 0) (xs := ecs (E.drop 0)) rfl (.tmp 38) (.tmp 41) _ rfl w3.heap.size 46 rfl inf_edge rfl (by decide) rfl HOW5.out rfl (HT2.out _ HB5.out) (ecs_one _) (by unfold maxLen; omega) (by omega) (Below.refl _ _) HSZ5.out ?_; rw [Nat.zero_add, ← ecs_append]; intro p6 c6 w6 hown6 hb6 hs6 hg6 hnb6; have HB6 := Lib.hid (HB5.out.trans hb6); have HOW6 := Lib.hid hown6; have HKX6 := Lib.hid (HKX3.out.next HB6.out); obtain ⟨hk0, hk1, hk2, hk3, hf0, hf1, hf2, hf3⟩ := HKX6.out.four; clear hb6 hs6 hown6 hg6 hnb6)
          | fail)
      all_goals go_wp2_with fail
      all_goals go_meet
      all_goals exact ⟨p6, c6, _, rfl, by omega, Lib.hid (HKX6.out.setc 1 _), Lib.hid (((RdB.of_own HOW6.out).mono h2z).setCell (a := ⟨g3, 1, none⟩) (Nat.lt_succ_self _) _), Lib.hid (grown_trans (grown_belowS HB6.out) (grown_set (s := g3)))⟩
    · have hnd2 : (n : Int) ≤ (d : Int) := by omega
      have htd : (t : Int) ≤ (d : Int) := by omega
      have hd9 : d ≤ 9223372036854775807 := by unfold maxLen at hd63; omega
      have HT2 := Lib.hid (fun (W : World) (hW : Below w3.heap.size w3 W) => HJ3.out.sl.later hW)
      by_cases hkd : d = t
      · obtain rfl : n = d := by omega
        obtain rfl : t = n := by omega
        have HT1 := Lib.hid (fun (W : World) (hW : Below w3.heap.size w3 W) => (show Sl W 3 (.slice (some ⟨qb, 0, none⟩) 0 0) 0 (ecs (E.drop t)) from by
          have h := sl_tail HJ3.out.sl t 0 (Nat.le_refl _) (.inr rfl)
          rw [Nat.sub_self] at h
          exact h.later hW))
        go_region_held3 (fun w' => w'.cell? ⟨g2, 1, none⟩ = some (.slice (some ⟨qb, 0, none⟩) t t))
          (first | (exact hx1) | (exact below_cellOf HB5.out hx1) | (exact below_cellOf HB6.out hx1) | (exact (World.cell?_setCell_other _ _ _ _ (fun e => absurd (congrArg Addr.block e) (by intro h; simp only at h; omega))).trans (below_cellOf HB6.out hx1)) | go_keep)
          (first
            | (refine step_app (W := w3.drew) (w0 := w3) (n := 0) (xs := []) rfl (.const (.slice none 0 0)) (.tmp 37) _ rfl w3.heap.size 46 rfl inf_edge rfl (by decide) rfl (World.ownsRow_nil _ _ _ _) rfl (HT1.out _ (Below.refl _ w3).drew) (ecs_one _) (by unfold maxLen; omega) (by omega) (Below.refl _ w3).drew (Nat.le_refl _) ?_; rw [Nat.zero_add, List.nil_append]; intro p5 c5 w5 hown5 hb5 hs5 hg5 hnb5; have HB5 := Lib.hid hb5; have HOW5 := Lib.hid hown5; have HSZ5 := Lib.hid hs5; clear hb5 hs5 hown5 hg5 hnb5)
            | (refine step_app (W := w5) (w0 := w5) (n := 0) (xs := ecs (E.drop t)) rfl (.tmp 38) (.tmp 41) _ rfl w3.heap.size 46 rfl inf_edge rfl (by decide) rfl HOW5.out rfl (HT2.out _ HB5.out) (ecs_one _) (by unfold maxLen; omega) (by omega) (Below.refl _ _) HSZ5.out ?_; rw [Nat.zero_add, ← ecs_append]; intro p6 c6 w6 hown6 hb6 hs6 hg6 hnb6; have HB6 := Lib.hid (HB5.out.trans hb6); have HOW6 := Lib.hid hown6; have HKX6 := Lib.hid (HKX3.out.next HB6.out); obtain ⟨hk0, hk1, hk2, hk3, hf0, hf1, hf2, hf3⟩ := HKX6.out.four; clear hb6 hs6 hown6 hg6 hnb6)
            | fail)
        all_goals go_wp2_with fail
        all_goals go_meet
        all_goals exact ⟨p6, c6, _, rfl, by omega, Lib.hid (HKX6.out.setc 1 _), Lib.hid (((RdB.of_own HOW6.out).mono h2z).setCell (a := ⟨g3, 1, none⟩) (Nat.lt_succ_self _) _), Lib.hid (grown_trans (grown_belowS HB6.out) (grown_set (s := g3)))⟩
      · have HT1 := Lib.hid (fun (W : World) (hW : Below w3.heap.size w3 W) => (show Sl W 3 (.slice (some ⟨qb, t * 3, none⟩) (n - t) (d - t)) (n - t) (ecs (E.drop t)) from (sl_tail HJ3.out.sl t (t * 3) HTN.out (.inl rfl)).later hW))
        go_region_held3 (fun w' => w'.cell? ⟨g2, 1, none⟩ = some (.slice (some ⟨qb, 0, none⟩) n d))
          (first | (exact hx1) | (exact below_cellOf HB5.out hx1) | (exact below_cellOf HB6.out hx1) | (exact (World.cell?_setCell_other _ _ _ _ (fun e => absurd (congrArg Addr.block e) (by intro h; simp only at h; omega))).trans (below_cellOf HB6.out hx1)) | go_keep)
          (first
            | (refine step_app (W := w3.drew) (w0 := w3) (n := 0) (xs := []) rfl (.const (.slice none 0 0)) (.tmp 37) _ rfl w3.heap.size 46 rfl inf_edge rfl (by decide) rfl (World.ownsRow_nil _ _ _ _) rfl (HT1.out _ (Below.refl _ w3).drew) (ecs_one _) (by unfold maxLen; omega) (by omega) (Below.refl _ w3).drew (Nat.le_refl _) ?_; rw [Nat.zero_add, List.nil_append]; intro p5 c5 w5 hown5 hb5 hs5 hg5 hnb5; have HB5 := Lib.hid hb5; have HOW5 := Lib.hid hown5; have HSZ5 := Lib.hid hs5; clear hb5 hs5 hown5 hg5 hnb5)
            | (refine step_app (W := w5) (w0 := w5) (n := n - t) (xs := ecs (E.drop t)) rfl (.tmp 38) (.tmp 41) _ rfl w3.heap.size 46 rfl inf_edge rfl (by decide) rfl HOW5.out rfl (HT2.out _ HB5.out) (ecs_one _) (by unfold maxLen; omega) (by omega) (Below.refl _ _) HSZ5.out ?_; rw [← ecs_append]; intro p6 c6 w6 hown6 hb6 hs6 hg6 hnb6; have HB6 := Lib.hid (HB5.out.trans hb6); have HOW6 := Lib.hid hown6; have HKX6 := Lib.hid (HKX3.out.next HB6.out); obtain ⟨hk0, hk1, hk2, hk3, hf0, hf1, hf2, hf3⟩ := HKX6.out.four; clear hb6 hs6 hown6 hg6 hnb6)
            | fail)
        all_goals go_wp2_with fail
        all_goals go_meet
        all_goals exact ⟨p6, c6, _, rfl, by omega, Lib.hid (HKX6.out.setc 1 _), Lib.hid (((RdB.of_own HOW6.out).mono h2z).setCell (a := ⟨g3, 1, none⟩) (Nat.lt_succ_self _) _), Lib.hid (grown_trans (grown_belowS HB6.out) (grown_set (s := g3)))⟩
  case rest =>
  obtain ⟨p6, c6, m, rfl, hm, HKX, HKS, HGR⟩ := hcut
  obtain ⟨w6, hw6⟩ : ∃ w6 : World, w6 = wc := ⟨_, rfl⟩
  rw [← hw6] at HKX HKS HGR ⊢
  have hmem : ∀ e, e ∈ E ↔ e ∈ E.drop t ++ E := fun e => by
    rw [List.mem_append]
    exact ⟨.inr, fun h => h.elim (fun h => List.mem_of_mem_drop h) id⟩
  obtain ⟨F, hF⟩ : ∃ F, F = E.drop t ++ E := ⟨_, rfl⟩
  rw [← hF] at hmem HKS
  have hFl : F.length = m := by rw [hF, List.length_append, List.length_drop, ← HN.out, hm]
  have HMEM := Lib.hid hmem
  have HFL := Lib.hid hFl
  have HRF := Lib.hid (runs_same HJ3.out.g ⟨HJ3.out.N1, HJ3.out.N10⟩ (by have := HN.out; omega) hmem HRI.out)
  have hm20 : m ≤ 20 := by omega
  have hsame := st_same HJ3.out.g ⟨HJ3.out.N1, HJ3.out.N10⟩ (by have := HN.out; omega) hmem K (kind := kd) (src := (sr : Int))
  obtain ⟨hgd, hstp, -⟩ := HRI.out.good HJ3.out.g ⟨HJ3.out.N1, HJ3.out.N10⟩ (by have := HN.out; omega)
  have hN10 := HJ3.out.N10
  have HJ6 := Lib.hid (show JobOk w6 q d n N kd (sr : Int) E from ⟨HJS.out _ HGR.out, HJ3.out.g, HJ3.out.N1, HJ3.out.N10, HJ3.out.n20, HJ3.out.k1, HJ3.out.k3, HJ3.out.s0, HJ3.out.sN⟩)
  have HF6 := Lib.hid (show JobOk w6 p6 c6 m N kd (sr : Int) F from ⟨HKS.out.1, (fun e he => HJ3.out.g e ((hmem e).2 he)), HJ3.out.N1, HJ3.out.N10, hm20, HJ3.out.k1, HJ3.out.k3, HJ3.out.s0, HJ3.out.sN⟩)
  have HJX6 := Lib.hid (HJX3.out.grown HGR.out (fun e => by have := Option.some.inj e; omega))
  have HB6 := Lib.hid (HB3.out.grown HGR.out HB3.out.size (fun k hk => by have := Option.some.inj hk; have h := HG3.out; omega))
  have HRAN1 := Lib.hid (fun (W : World) (hW : Below w6.heap.size w6 W) => ran_ok q d n N kd K (sr : Int) E W (HJ6.out.later hW) (by have := HN.out; omega) HRI.out)
  have HRAN2 := Lib.hid (fun (W : World) (hW : Below w6.heap.size w6 W) => ran_ok p6 c6 m N kd K (sr : Int) F W (HF6.out.later hW) (by omega) HRF.out)
  obtain ⟨sF, hsF⟩ : ∃ sF, sF = itF (nextF kd (sr : Int) N E) K (beginF N) := ⟨_, rfl⟩
  obtain ⟨sG, hsG⟩ : ∃ sG, sG = itF (nextF kd (sr : Int) N F) K (beginF N) := ⟨_, rfl⟩
  rw [← hsF] at HRAN1 hsame hgd hstp
  rw [← hsG] at HRAN2 hsame
  have HGD := Lib.hid hgd
  have HST := Lib.hid hstp
  have HST2 := Lib.hid (show sG.step = K from by rw [← hsame.step]; exact hstp)
  have HAN := Lib.hid (show ansF kd sG = ansF kd sF from by unfold ansF; rw [hsame.vals])
  have hK230 := HRI.out.K2
  clear hw6 hF hmem hFl hm htn HTN ht0 ht1 hx0 hx1 hx2 hx3 HGR HKS HJX3 HKX3 HB3 HQS HJ3 hsF hsG hsame hgd hstp HRI HRF HJ6 HF6 HMEM HFL HPK HJS
  unfold jobV at HRAN1 HRAN2
  obtain ⟨hx0, hx1, hx2, hx3, _⟩ := HJX6.out.four
  go_wp2_with fail
  refine (HRAN1.out _ (Below.refl _ _)).mono ?_; rintro e w7 ⟨q7, d7, v7, rfl, ho7, hs7, hb7⟩
  obtain ⟨pv, pm, cv, cm, rfl, -, -, -⟩ := hs7
  have HO7 := Lib.hid ho7
  have HW7 := Lib.hid hb7
  have HJX7 := Lib.hid (HJX6.out.next hb7)
  have HKX7 := Lib.hid (HKX.out.next hb7)
  rw [HST.out]
  clear ho7 hb7 hx0 hx1 hx2 hx3 HRAN1 HJX6 HKX
  obtain ⟨b8, B8, z8⟩ := boxed0 w7 [.int .i64 (K : Int), .int .i64 (sF.phase : Int), .bool sF.fresh, .bool sF.done, .slice pv N cv, .slice pm N cm] 32
  go_upto_region 6 with fail
  obtain ⟨w8, hw8⟩ : ∃ w8 : World, w8 = w7.alloc (.cells #[.int .i64 (K : Int), .int .i64 (sF.phase : Int), .bool sF.fresh, .bool sF.done, .slice pv N cv, .slice pm N cm] 32) := ⟨_, rfl⟩
  obtain ⟨g8, hg8⟩ : ∃ g8, g8 = w7.heap.size := ⟨_, rfl⟩
  have e8 : (w7.alloc (.cells (List.toArray [Value.int .i64 (K : Int), .int .i64 (sF.phase : Int), .bool sF.fresh, .bool sF.done, .slice pv N cv, .slice pm N cm]) 32)) = w8 := hw8.symm
  rw [e8] at b8 B8 z8
  rw [← hg8] at B8
  rw [← hw8, ← hg8]
  have HO8 := Lib.hid (own_later HO7.out b8)
  have HW8 := Lib.hid (HW7.out.trans (b8.mono HW7.out.size))
  have HJX8 := Lib.hid (HJX7.out.next b8)
  have HKX8 := Lib.hid (HKX7.out.next b8)
  have HSX8 := Lib.hid B8
  clear hw8 hg8 e8 b8 B8 z8 HO7 HW7 HJX7 HKX7
  obtain ⟨hx0, hx1, hx2, hx3, _⟩ := HKX8.out.four
  go_wp2_with fail
  refine (HRAN2.out _ HW8.out).mono ?_; rintro e w9 ⟨q9, d9, v9, rfl, ho9, hs9, hb9⟩
  obtain ⟨pv9, pm9, cv9, cm9, rfl, -, -, -⟩ := hs9
  have HO9 := Lib.hid ho9
  have HA9 := Lib.hid (own_later HO8.out hb9)
  have HW9 := Lib.hid (HW8.out.trans (hb9.mono HW8.out.size))
  have HJX9 := Lib.hid (HJX8.out.next hb9)
  have HSX9 := Lib.hid (HSX8.out.next hb9)
  rw [HST2.out]
  clear ho9 hb9 hx0 hx1 hx2 hx3 HRAN2 HJX8 HKX8 HO8 HW8 HSX8
  obtain ⟨b10, B10, z10⟩ := boxed0 w9 [.int .i64 (K : Int), .int .i64 (sG.phase : Int), .bool sG.fresh, .bool sG.done, .slice pv9 N cv9, .slice pm9 N cm9] 32
  go_upto_region 7 with fail
  obtain ⟨w10, hw10⟩ : ∃ w10 : World, w10 = w9.alloc (.cells #[.int .i64 (K : Int), .int .i64 (sG.phase : Int), .bool sG.fresh, .bool sG.done, .slice pv9 N cv9, .slice pm9 N cm9] 32) := ⟨_, rfl⟩
  obtain ⟨g10, hg10⟩ : ∃ g10, g10 = w9.heap.size := ⟨_, rfl⟩
  have e10 : (w9.alloc (.cells (List.toArray [Value.int .i64 (K : Int), .int .i64 (sG.phase : Int), .bool sG.fresh, .bool sG.done, .slice pv9 N cv9, .slice pm9 N cm9]) 32)) = w10 := hw10.symm
  rw [e10] at b10 B10 z10
  rw [← hg10] at B10
  rw [← hw10, ← hg10]
  have HA := Lib.hid (ans_isI (own_later HA9.out b10) HGD.out hN10 (by rw [HST.out]; omega))
  have HB := Lib.hid (show IsI w10 (.slice q9 N d9) (ansF kd sF) from by
    refine ⟨?_, HA.out.2⟩
    have h1 := Sl.of_own (own_later HO9.out b10)
    rw [HAN.out] at h1
    have h2 : (ansF kd sF).length = N := by rw [ansF_len, HGD.out.vl]
    rw [h2]; exact h1)
  have HW10 := Lib.hid (HW9.out.trans (b10.mono HW9.out.size))
  have HJX10 := Lib.hid (HJX9.out.next b10)
  have HSX10 := Lib.hid (HSX9.out.next b10)
  have HTX10 := Lib.hid B10
  have HSI := Lib.hid (sameInts_true q7 q9 d7 d9 N N _ w10 HA.out HB.out)
  clear hw10 hg10 e10 b10 B10 z10 HO9 HA9 HW9 HJX9 HSX9 HA HB HAN HGD
  obtain ⟨hx0, hx1, hx2, hx3, _⟩ := HJX10.out.four
  have ht0 := HSX10.out.six.1
  have hu0 := HTX10.out.six.1
  have hnn : ((N : Int) == (N : Int)) = true := by simp
  have hkk : ((K : Int) == (K : Int)) = true := by simp
  go_wp2_with fail
  refine HSI.out.mono ?_; rintro e w11 ⟨rfl, hb11⟩
  have HW11 := Lib.hid (HW10.out.trans (hb11.mono HW10.out.size))
  have ht0 := (HSX10.out.next hb11).six.1
  have hu0 := (HTX10.out.next hb11).six.1
  clear hb11
  go_wp2_with fail
  go_ret
  exact ⟨rfl, HB6.out.trans (HW11.out.mono HB6.out.size)⟩
end Go.Proofs.Ytiaflhlfodcbjaa
