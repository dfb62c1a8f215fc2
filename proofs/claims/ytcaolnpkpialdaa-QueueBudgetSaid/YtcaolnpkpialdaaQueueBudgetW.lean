/- The walk of the law QueueBudget. NOT WHOLE YET: see NOTES.md. -/
import Derived.Test.YtcaolnpkpialdaaDrain
import Derived.Test.YtcaolnpkpialdaaSameMailU
import Derived.Test.YtcaolnpkpialdaaPSplits
import Derived.OwnWalk
import Derived.IntWalk
namespace Go.Proofs.Ytcaolnpkpialdaa
open Go.RowKit Go.Sort Go.Proofs
theorem postsL_okB (raw : List (List Int)) (m : Nat) : ∀ x ∈ postsL raw m, okM x := fun x hx => by
  unfold postsL at hx
  obtain ⟨r, -, rfl⟩ := List.mem_map.1 hx
  unfold mailOf okM
  have h1 := pickN_lt (r.getD 0 0) (m := 6) (by omega)
  have h2 := pickN_lt (r.getD 1 0) (m := 1000) (by omega)
  constructor
  · show pickN _ _ < 200; omega
  · show pickN _ _ ≤ _; omega
theorem own_formB {w : World} {B : Nat} {e : TypeId} {size n c : Nat} {p : Option Addr} {xs : List Value} (h : w.ownsRow B e size (.slice p n c) n xs) : (p = none ∧ c = 0) ∨ ∃ g, p = some ⟨g, 0, none⟩ := by
  rcases h.2 with ⟨h1, h2⟩ | ⟨g, cap, cur, h1, h2, h3⟩
  · cases h1; exact .inl ⟨rfl, rfl⟩
  · cases h1; exact .inr ⟨g, rfl⟩
theorem turn_srt (l : List (Nat × Nat)) (k : Nat) : srt cfM (l.drop k ++ l.take k) = srt cfM l :=
  srt_unique swoM totM ((srt_perm l).trans (by
    have := @List.perm_append_comm _ (l.take k) (l.drop k)
    rw [List.take_append_drop] at this
    exact this)) (srt_sorted swoM l)
set_option linter.unusedVariables false in
set_option maxHeartbeats 8000000 in
set_option maxRecDepth 100000 in
theorem queueBudget_walk (w : World) (x : Int) (hx0 : -9223372036854775808 ≤ x) (hx1 : x ≤ 9223372036854775807) (y : Int) (hy0 : -9223372036854775808 ≤ y) (hy1 : y ≤ 9223372036854775807) (v2 : Value) (l2 : List (List Int)) (h2 : IsR 2 w v2 l2) (z : Int) (hz0 : -9223372036854775808 ≤ z) (hz1 : z ≤ 9223372036854775807) :
    Calls Try.prog 12 #[.int .i64 x, .int .i64 y, v2, .int .i64 z] w fun e w' => e = .returned (.bool true) ∧ Below w.heap.size w w' := by
  obtain ⟨p1, c1, rfl⟩ := h2.val
  have HPX := Lib.hid (fun w' => picked_i x 6 6 w' rfl hx0 hx1 (by omega) (by omega))
  have HPY := Lib.hid (fun w' => picked_i y 50 50 w' rfl hy0 hy1 (by omega) (by omega))
  have HP := Lib.hid (posts_any p1 c1 _ l2 40 w h2 (by omega))
  have hxa := pickN_lt x (m := 6) (by omega)
  have hya := pickN_lt y (m := 50) (by omega)
  have hpl : (postsL l2 40).length ≤ 40 := by unfold postsL; rw [List.length_map]; exact List.length_take_le _ _
  have hpo := postsL_okB l2 40
  generalize pickN x 6 = kx at *
  generalize pickN y 50 = ky at *
  generalize postsL l2 40 = l at *
  obtain ⟨n, hn⟩ : ∃ n, n = l.length := ⟨_, rfl⟩
  have HN := Lib.hid hn
  rw [← hn] at HP hpl
  have HPZ := Lib.hid (fun w' => picked_i z ((n : Int) + 1) (n + 1) w' (by push_cast; rfl) hz0 hz1 (by omega) (by omega))
  have hza := pickN_lt z (m := n + 1) (by omega)
  generalize pickN z (n + 1) = k at *
  -- any order of the same mail, any budget: what is drained
  have HF := Lib.hid (fun (b : Nat) (hb : b < 100) (l' : List (Nat × Nat)) (hl' : l'.length = n ∧ srt cfM l' = srt cfM l ∧ ∀ m ∈ l', okM m) (W : World) (p : Option Addr) (c : Nat) (h : Sl W 2 (.slice p n c) n (mcs l')) => (show Calls Try.prog 34 #[.int .i64 (1 + (b : Int)), .slice p n c] W fun e w' => ∃ (p3 p4 : Option Addr) (n3 n4 c3 c4 mo : Nat) (q : Qu), e = .returned (.tuple #[.agg #[.int .i64 (1 + (b : Int)), .slice p3 n3 c3, .slice p4 n4 c4], .int .i64 (mo : Int), .bool true]) ∧ Below W.heap.size W w' ∧
      Hid (OwnQ w' W.heap.size (.agg #[.int .i64 (1 + (b : Int)), .slice p3 n3 c3, .slice p4 n4 c4]) q) ∧
      Hid (∀ W', IsQ W' (.agg #[.int .i64 (1 + (b : Int)), .slice p3 n3 c3, .slice p4 n4 c4]) q → Calls Try.prog 35 #[.agg #[.int .i64 (1 + (b : Int)), .slice p3 n3 c3, .slice p4 n4 c4]] W' fun e w'' => ∃ p5 c5, e = .returned (.tuple #[.slice p5 n c5, .int .i64 0]) ∧ Sl w'' 2 (.slice p5 n c5) n (mcs (srt cfM l)) ∧ Below W'.heap.size W' w'') from by
    have h5 := filled_own (1 + b) n c p l' W h (by omega) (by omega) hl'.2.2 (by omega)
    rw [show ((1 + b : Nat) : Int) = 1 + (b : Int) by omega] at h5
    obtain ⟨f1, f2, f3, -, f5⟩ := fillQ_ok (bud := 1 + b) (by omega) (by omega) l' hl'.2.2 (by rw [hl'.1]; omega)
    have f6 : (fillQ (1 + b) l').runs.length ≤ 4000 := by rw [f5, hl'.1]; have := Nat.div_le_self n (1 + b); omega
    have f7 := fillQ_srt (1 + b) l'
    rw [hl'.1] at f2
    rw [hl'.2.1] at f7
    generalize fillQ (1 + b) l' = q at *
    refine h5.mono ?_
    rintro e w' ⟨v, mo, rfl, -, hq, hb'⟩
    have hq' := hq
    obtain ⟨p3, c3, p4, c4, vs, rfl, -, -⟩ := hq'
    have e3 : (q.bud : Int) = 1 + (b : Int) := by rw [f3]; omega
    rw [e3] at hq ⊢
    refine ⟨p3, p4, _, _, c3, c4, mo, q, rfl, hb', Lib.hid hq, Lib.hid (fun W' hW' => ?_)⟩
    have := drain_ok _ q W' hW' f1 f6
    rw [f2, f7] at this
    refine this.mono ?_
    rintro e w'' ⟨p', c', rfl, ho, hb⟩
    exact ⟨p', c', rfl, Sl.of_own ho, hb⟩))
  have HTU := Lib.hid (show (l.drop k ++ l.take k).length = n ∧ srt cfM (l.drop k ++ l.take k) = srt cfM l ∧ ∀ m ∈ l.drop k ++ l.take k, okM m from
    ⟨by rw [List.length_append, List.length_drop, List.length_take, ← hn]; omega, turn_srt l k, fun m hm => by
      rcases List.mem_append.1 hm with hm | hm
      · exact hpo m (List.mem_of_mem_drop hm)
      · exact hpo m (List.mem_of_mem_take hm)⟩)
  have HLO := Lib.hid (show l.length = n ∧ True ∧ ∀ m ∈ l, okM m from ⟨hn.symm, trivial, hpo⟩)
  clear h2 hx0 hx1 hy0 hy1 hz0 hz1 hpo hn
  have hw0 : IntKind.i64.wrap ((n : Int) + 1) = (n : Int) + 1 := IntWalk.i64_in _ (by omega)
  go_enter Try.func12, Try.ntmps12
  go_wp2_with fail
  refine HP.out.mono ?_; rintro e w1 ⟨q1, d1, rfl, ho1, hb1⟩
  have HS1 := Lib.hid (Sl.of_own ho1)
  have HQ1 := Lib.hid (own_formB ho1)
  have HB1 := Lib.hid hb1
  obtain ⟨-, hnd, hd63⟩ := (Sl.of_own ho1).mlen
  clear ho1 hb1
  go_wp2_with fail
  refine (HPZ.out _).mono ?_; rintro e wn ⟨rfl, rfl⟩
  go_wp2_with fail
  refine (HPX.out _).mono ?_; rintro e wn ⟨rfl, rfl⟩
  go_wp2_with fail
  refine (HF.out kx (by omega) l ⟨HLO.out.1, rfl, HLO.out.2.2⟩ _ _ _ HS1.out).mono ?_; rintro e w2 ⟨p3, p4, n3, n4, c3, c4, mo, q2, rfl, hb2, HQ2, HDR2⟩
  have HS2 := Lib.hid (HS1.out.later hb2)
  have HB2 := Lib.hid (HB1.out.trans (hb2.mono HB1.out.size))
  obtain ⟨b3, B3, z3⟩ := boxed0 w2 [.int .i64 (1 + (kx : Int)), .slice p3 n3 c3, .slice p4 n4 c4] 86
  clear hb2
  go_upto_region 4 with fail
  obtain ⟨g3, hg3⟩ : ∃ g3, g3 = w2.heap.size := ⟨_, rfl⟩
  have HS3 := Lib.hid (HS2.out.later b3)
  have HB3 := Lib.hid (HB2.out.trans (b3.mono HB2.out.size))
  have HQ3 := Lib.hid (HQ2.out.isQ.later b3)
  rw [← hg3] at B3 ⊢
  generalize (w2.alloc (.cells #[.int .i64 (1 + (kx : Int)), .slice p3 n3 c3, .slice p4 n4 c4] 86)) = w3 at *
  have HX3 := Lib.hid B3
  have hkn : k ≤ n := by omega
  have hk0 : (0 : Int) ≤ (k : Int) := by omega
  have hk1 : (k : Int) ≤ (n : Int) := by omega
  have hk2 : (k : Int) ≤ (d1 : Int) := by omega
  have hk3 : (n : Int) ≤ (d1 : Int) := by omega
  have hm3 : n ≤ maxLen := by unfold maxLen; omega
  have HKN := Lib.hid hkn
  have HKN2 := Lib.hid (show n - k + k = n by omega)
  have hky : ky < 100 := by omega
  clear b3 B3 z3 hg3
  go_cut [14, 15, 16] (fun s14 s15 s16 wx => ∃ (g : Nat) (p5 p6 : Option Addr) (n5 n6 c5 c6 mo : Nat) (q : Qu), s14 = .pointer (some ⟨g, 0, none⟩) ∧ s15 = .int .i64 (mo : Int) ∧ s16 = .bool true ∧ Hid (Bx wx g [.int .i64 (1 + (ky : Int)), .slice p5 n5 c5, .slice p6 n6 c6]) ∧ Hid (Below w3.heap.size w3 wx) ∧
    Hid (IsQ wx (.agg #[.int .i64 (1 + (ky : Int)), .slice p5 n5 c5, .slice p6 n6 c6]) q) ∧ Hid (∀ W', IsQ W' (.agg #[.int .i64 (1 + (ky : Int)), .slice p5 n5 c5, .slice p6 n6 c6]) q → Calls Try.prog 35 #[.agg #[.int .i64 (1 + (ky : Int)), .slice p5 n5 c5, .slice p6 n6 c6]] W' fun e w'' => ∃ p5 c5, e = .returned (.tuple #[.slice p5 n c5, .int .i64 0]) ∧ Sl w'' 2 (.slice p5 n c5) n (mcs (srt cfM l)) ∧ Below W'.heap.size W' w''))
  case first =>
    rcases HQ1.out with ⟨rfl, rfl⟩ | ⟨qb, rfl⟩
    · have hn0 : n = 0 := by omega
      have hk00 : k = 0 := by omega
      have HL0 := Lib.hid (show l = [] from List.eq_nil_of_length_eq_zero (by rw [← HN.out]; exact hn0))
      have HT1 := Lib.hid (fun (W : World) (hW : Below w3.heap.size w3 W) => (show Sl W 2 (.slice none 0 0) 0 (mcs (l.drop 0)) from by rw [HL0.out]; exact ⟨none, 0, rfl, Nat.le_refl _, by decide, rfl, fun _ => rfl, .inl rfl⟩))
      have HT2 := Lib.hid (fun (W : World) (hW : Below w3.heap.size w3 W) => (show Sl W 2 (.slice none 0 0) 0 (mcs (l.take 0)) from by rw [HL0.out]; exact ⟨none, 0, rfl, Nat.le_refl _, by decide, rfl, fun _ => rfl, .inl rfl⟩))
      subst hn0 hk00
      have HWY := Lib.hid (show IntKind.i64.wrap (1 + (ky : Int)) = 1 + (ky : Int) from IntWalk.i64_in _ (by omega))
      have HA3 := Lib.hid (alloc_below w3 (.cells #[.int .i64 0, .slice none 0 0, .slice none 0 0] 86))
      have HZ3D := Lib.hid (show Bx (w3.alloc (.cells #[.int .i64 0, .slice none 0 0, .slice none 0 0] 86)).drew w3.heap.size [.int .i64 0, .slice none 0 0, .slice none 0 0] from bx_new w3 _ _)
      have hsz3 : (w3.alloc (.cells #[.int .i64 0, .slice none 0 0, .slice none 0 0] 86)).heap.size = w3.heap.size + 1 := by simp
      go_region_held3 (fun w' => True) (trivial)
        (first
          | (go_at_call 15; refine (HPY.out _).mono ?_; rintro e wn ⟨rfl, rfl⟩)
          | (refine step_app (w0 := w3) (n := 0) (xs := []) rfl (.const (.slice none 0 0)) (.tmp 43) _ rfl w3.heap.size 109 rfl inf_ml rfl (by decide) rfl (World.ownsRow_nil _ _ _ _) rfl (HT1.out _ (Below.refl _ w3).drew) (mcs_one _) (by omega) (by omega) (Below.refl _ w3).drew (Nat.le_refl _) ?_; rw [Nat.zero_add, List.nil_append]; intro p5 c5 w5 hown5 hb5 hs5 hg5 hnb5; have HB5 := Lib.hid hb5; have HOW5 := Lib.hid hown5; have HSZ5 := Lib.hid hs5; clear hb5 hs5 hown5 hg5 hnb5)
          | (refine step_app (w0 := (w3.alloc (.cells #[.int .i64 0, .slice none 0 0, .slice none 0 0] 86))) (n := 0) (xs := []) rfl (.const (.slice none 0 0)) (.tmp 43) _ rfl (w3.heap.size + 1) 109 rfl inf_ml rfl (by decide) rfl (World.ownsRow_nil _ _ _ _) rfl (HT1.out _ HA3.out.drew) (mcs_one _) (by omega) (by omega) (Below.refl _ _).drew (by show w3.heap.size + 1 ≤ (w3.alloc (.cells #[.int .i64 0, .slice none 0 0, .slice none 0 0] 86)).heap.size; omega) ?_; rw [Nat.zero_add, List.nil_append]; intro p5 c5 w5 hown5 hb5 hs5 hg5 hnb5; have HEARLY := Lib.hid (show Bx w5 w3.heap.size [.int .i64 0, .slice none 0 0, .slice none 0 0] from HZ3D.out.grown hg5 (fun e => by cases e)); have HB5 := Lib.hid (below_next HA3.out (Nat.le_refl _) (by rw [hsz3]; exact hb5)); have HOW5 := Lib.hid hown5; have HSZ5 := Lib.hid hs5; clear hb5 hs5 hown5 hg5 hnb5)
          | (refine step_app (W := w5) (w0 := w5) (n := 0) (xs := mcs (l.drop 0)) rfl (.tmp 44) (.tmp 48) _ rfl (w3.heap.size + 1) 109 rfl inf_ml rfl (by decide) rfl HOW5.out rfl (HT2.out _ HB5.out) (mcs_one _) (by omega) (by omega) (Below.refl _ _) HSZ5.out ?_; rw [Nat.zero_add, ← mcs_append]; intro p6 c6 w6 hown6 hb6 hs6 hg6 hnb6; have HZ6 := Lib.hid (HEARLY.out.grown hg6 (fun e => by have := (HOW5.out.lt _ e).1; omega)); have HB6 := Lib.hid (HB5.out.trans (hb6.mono (Nat.le_succ _))); have HOW6 := Lib.hid hown6; clear hb6 hs6 hown6 hg6 hnb6)
          | (refine step_app (W := w5) (w0 := w5) (n := 0) (xs := mcs (l.drop 0)) rfl (.tmp 44) (.tmp 48) _ rfl w3.heap.size 109 rfl inf_ml rfl (by decide) rfl HOW5.out rfl (HT2.out _ HB5.out) (mcs_one _) (by omega) (by omega) (Below.refl _ _) HSZ5.out ?_; rw [Nat.zero_add, ← mcs_append]; intro p6 c6 w6 hown6 hb6 hs6 hg6 hnb6; have HB6 := Lib.hid (HB5.out.trans hb6); have HOW6 := Lib.hid hown6; clear hb6 hs6 hown6 hg6 hnb6)
          | (refine step_app (W := (w5.alloc (.cells #[.int .i64 0, .slice none 0 0, .slice none 0 0] 86))) (w0 := (w5.alloc (.cells #[.int .i64 0, .slice none 0 0, .slice none 0 0] 86))) (n := 0) (xs := mcs (l.drop 0)) rfl (.tmp 44) (.tmp 48) _ rfl w3.heap.size 109 rfl inf_ml rfl (by decide) rfl (HOW5.out.alloc _) rfl (HT2.out _ (HB5.out.alloc HSZ5.out (.cells #[.int .i64 0, .slice none 0 0, .slice none 0 0] 86))) (mcs_one _) (by omega) (by omega) (Below.refl _ _) (by have := HSZ5.out; simp; omega) ?_; rw [Nat.zero_add, ← mcs_append]; intro p6 c6 w6 hown6 hb6 hs6 hg6 hnb6; have HZ6 := Lib.hid ((bx_new w5 [.int .i64 0, .slice none 0 0, .slice none 0 0] 86).grown hg6 (fun e => by have := (HOW5.out.lt _ e).2; omega)); have HB6 := Lib.hid ((HB5.out.alloc HSZ5.out (.cells #[.int .i64 0, .slice none 0 0, .slice none 0 0] 86)).trans hb6); have HOW6 := Lib.hid hown6; clear hb6 hs6 hown6 hg6 hnb6)
          | (go_at_call 34; rw [HWY.out]; with_reducible refine (HF.out ky hky _ HTU.out w6 p6 c6 (Sl.of_own HOW6.out)).mono ?_; rintro e w7 ⟨p7, p8, n7, n8, c7, c8, mo7, q7, rfl, hb7, HQ7, HDR7⟩; have HZ7 := Lib.hid (HZ6.out.next hb7); have HB7 := Lib.hid (HB6.out.trans (hb7.mono HB6.out.size)); obtain ⟨hy0, hy1, hy2, hy3, hy4, hy5⟩ := HZ7.out.three; have HLT := Lib.hid HZ6.out.lt; clear hb7)
          | (go_at_call 34; rw [HWY.out]; with_reducible refine (HF.out ky hky _ HTU.out w6 p6 c6 (Sl.of_own HOW6.out)).mono ?_; rintro e w7 ⟨p7, p8, n7, n8, c7, c8, mo7, q7, rfl, hb7, HQ7, HDR7⟩; have HB7 := Lib.hid (HB6.out.trans (hb7.mono HB6.out.size)); clear hb7)
          | (go_at_call 34; rw [HWY.out]; with_reducible refine (HF.out ky hky _ HTU.out (w6.alloc (.cells #[.int .i64 0, .slice none 0 0, .slice none 0 0] 86)) p6 c6 (Sl.of_own (HOW6.out.alloc _))).mono ?_; rintro e w7 ⟨p7, p8, n7, n8, c7, c8, mo7, q7, rfl, hb7, HQ7, HDR7⟩; have HZ7 := Lib.hid (Bx.next (bx_new w6 [.int .i64 0, .slice none 0 0, .slice none 0 0] 86) hb7); have HB7 := Lib.hid ((HB6.out.alloc HB6.out.size (.cells #[.int .i64 0, .slice none 0 0, .slice none 0 0] 86)).trans (hb7.mono (by have := HB6.out.size; simp; omega))); obtain ⟨hy0, hy1, hy2, hy3, hy4, hy5⟩ := HZ7.out.three; clear hb7)
          | fail)
      all_goals go_wp2_with fail
      all_goals go_meet
      case rel => exact ⟨_, p7, p8, n7, n8, c7, c8, mo7, q7, rfl, rfl, rfl, Lib.hid (bx_new w7 _ _), Lib.hid (HB7.out.alloc HB7.out.size _), Lib.hid (HQ7.out.isQ.later (alloc_below w7 _)), HDR7⟩
      case rel =>
        have hg1 := grown_trans (grown_set (w := w7) (s := w6.heap.size) (i := 0) (u := .int .i64 (1 + (ky : Int)))) (grown_trans (grown_set (s := w6.heap.size) (i := 1) (u := .slice p7 n7 c7)) (grown_set (s := w6.heap.size) (i := 2) (u := .slice p8 n8 c8)))
        exact ⟨_, p7, p8, n7, n8, c7, c8, mo7, q7, rfl, rfl, rfl, Lib.hid (((HZ7.out.setc 0 _).setc 1 _).setc 2 _), Lib.hid (((HB7.out.setCell HB6.out.size _).setCell HB6.out.size _).setCell HB6.out.size _), Lib.hid ((HQ7.out.grown hg1 (fun k hk => by cases hk; exact (by simp))).isQ), HDR7⟩
      case rel =>
        have hg1 := grown_trans (grown_set (w := w7) (s := w5.heap.size) (i := 0) (u := .int .i64 (1 + (ky : Int)))) (grown_trans (grown_set (s := w5.heap.size) (i := 1) (u := .slice p7 n7 c7)) (grown_set (s := w5.heap.size) (i := 2) (u := .slice p8 n8 c8)))
        exact ⟨_, p7, p8, n7, n8, c7, c8, mo7, q7, rfl, rfl, rfl, Lib.hid (((HZ7.out.setc 0 _).setc 1 _).setc 2 _), Lib.hid (((HB7.out.setCell HSZ5.out _).setCell HSZ5.out _).setCell HSZ5.out _), Lib.hid ((HQ7.out.grown hg1 (fun k hk => by cases hk; exact HLT.out)).isQ), HDR7⟩
      case rel =>
        have hg1 := grown_trans (grown_set (w := w7) (s := w3.heap.size) (i := 0) (u := .int .i64 (1 + (ky : Int)))) (grown_trans (grown_set (s := w3.heap.size) (i := 1) (u := .slice p7 n7 c7)) (grown_set (s := w3.heap.size) (i := 2) (u := .slice p8 n8 c8)))
        exact ⟨_, p7, p8, n7, n8, c7, c8, mo7, q7, rfl, rfl, rfl, Lib.hid (((HZ7.out.setc 0 _).setc 1 _).setc 2 _), Lib.hid (((HB7.out.setCell (Nat.le_refl _) _).setCell (Nat.le_refl _) _).setCell (Nat.le_refl _) _), Lib.hid ((HQ7.out.grown hg1 (fun k hk => by cases hk; exact HLT.out)).isQ), HDR7⟩
      case rel =>
        have hg1 := grown_trans (grown_set (w := w7) (s := w3.heap.size) (i := 0) (u := .int .i64 (1 + (ky : Int)))) (grown_trans (grown_set (s := w3.heap.size) (i := 1) (u := .slice p7 n7 c7)) (grown_set (s := w3.heap.size) (i := 2) (u := .slice p8 n8 c8)))
        exact ⟨_, p7, p8, n7, n8, c7, c8, mo7, q7, rfl, rfl, rfl, Lib.hid (((HZ7.out.setc 0 _).setc 1 _).setc 2 _), Lib.hid (((HB7.out.setCell (Nat.le_refl _) _).setCell (Nat.le_refl _) _).setCell (Nat.le_refl _) _), Lib.hid ((HQ7.out.grown hg1 (fun k hk => by cases hk; exact HLT.out)).isQ), HDR7⟩
    · by_cases hkd : d1 = k
      · have hkd2 : k = d1 := hkd.symm
        clear hkd
        subst hkd2
        have hnk : k = n := by omega
        subst hnk
        have HT1 := Lib.hid (fun (W : World) (hW : Below w3.heap.size w3 W) => (show Sl W 2 (.slice (some ⟨qb, 0, none⟩) 0 0) 0 (mcs (l.drop k)) from by rw [List.drop_eq_nil_of_le (by rw [← HN.out]; exact Nat.le_refl _)]; exact ⟨_, 0, rfl, Nat.le_refl _, by decide, rfl, (fun h => by cases h), .inl rfl⟩))
        have HT2 := Lib.hid (fun (W : World) (hW : Below w3.heap.size w3 W) => (show Sl W 2 (.slice (some ⟨qb, 0, none⟩) k k) k (mcs (l.take k)) from by
          have h := sl_piece HS3.out 0 k k 0 (Nat.zero_le _) HKN.out (Nat.le_refl _) (by omega) (.inl (by omega))
          rw [List.drop_zero] at h
          exact h.later hW))
        have HWY := Lib.hid (show IntKind.i64.wrap (1 + (ky : Int)) = 1 + (ky : Int) from IntWalk.i64_in _ (by omega))
        have HA3 := Lib.hid (alloc_below w3 (.cells #[.int .i64 0, .slice none 0 0, .slice none 0 0] 86))
        have HZ3D := Lib.hid (show Bx (w3.alloc (.cells #[.int .i64 0, .slice none 0 0, .slice none 0 0] 86)).drew w3.heap.size [.int .i64 0, .slice none 0 0, .slice none 0 0] from bx_new w3 _ _)
        have hsz3 : (w3.alloc (.cells #[.int .i64 0, .slice none 0 0, .slice none 0 0] 86)).heap.size = w3.heap.size + 1 := by simp
        go_region_held3 (fun w' => True) (trivial)
          (first
            | (go_at_call 15; refine (HPY.out _).mono ?_; rintro e wn ⟨rfl, rfl⟩)
            | (refine step_app (w0 := w3) (n := 0) (xs := []) rfl (.const (.slice none 0 0)) (.tmp 43) _ rfl w3.heap.size 109 rfl inf_ml rfl (by decide) rfl (World.ownsRow_nil _ _ _ _) rfl (HT1.out _ (Below.refl _ w3).drew) (mcs_one _) (by omega) (by omega) (Below.refl _ w3).drew (Nat.le_refl _) ?_; rw [Nat.zero_add, List.nil_append]; intro p5 c5 w5 hown5 hb5 hs5 hg5 hnb5; have HB5 := Lib.hid hb5; have HOW5 := Lib.hid hown5; have HSZ5 := Lib.hid hs5; clear hb5 hs5 hown5 hg5 hnb5)
            | (refine step_app (w0 := (w3.alloc (.cells #[.int .i64 0, .slice none 0 0, .slice none 0 0] 86))) (n := 0) (xs := []) rfl (.const (.slice none 0 0)) (.tmp 43) _ rfl (w3.heap.size + 1) 109 rfl inf_ml rfl (by decide) rfl (World.ownsRow_nil _ _ _ _) rfl (HT1.out _ HA3.out.drew) (mcs_one _) (by omega) (by omega) (Below.refl _ _).drew (by show w3.heap.size + 1 ≤ (w3.alloc (.cells #[.int .i64 0, .slice none 0 0, .slice none 0 0] 86)).heap.size; omega) ?_; rw [Nat.zero_add, List.nil_append]; intro p5 c5 w5 hown5 hb5 hs5 hg5 hnb5; have HEARLY := Lib.hid (show Bx w5 w3.heap.size [.int .i64 0, .slice none 0 0, .slice none 0 0] from HZ3D.out.grown hg5 (fun e => by cases e)); have HB5 := Lib.hid (below_next HA3.out (Nat.le_refl _) (by rw [hsz3]; exact hb5)); have HOW5 := Lib.hid hown5; have HSZ5 := Lib.hid hs5; clear hb5 hs5 hown5 hg5 hnb5)
            | (refine step_app (W := w5) (w0 := w5) (n := 0) (xs := mcs (l.drop k)) rfl (.tmp 44) (.tmp 48) _ rfl (w3.heap.size + 1) 109 rfl inf_ml rfl (by decide) rfl HOW5.out rfl (HT2.out _ HB5.out) (mcs_one _) (by omega) (by omega) (Below.refl _ _) HSZ5.out ?_; rw [Nat.zero_add, ← mcs_append]; intro p6 c6 w6 hown6 hb6 hs6 hg6 hnb6; have HZ6 := Lib.hid (HEARLY.out.grown hg6 (fun e => by have := (HOW5.out.lt _ e).1; omega)); have HB6 := Lib.hid (HB5.out.trans (hb6.mono (Nat.le_succ _))); have HOW6 := Lib.hid hown6; clear hb6 hs6 hown6 hg6 hnb6)
            | (refine step_app (W := w5) (w0 := w5) (n := 0) (xs := mcs (l.drop k)) rfl (.tmp 44) (.tmp 48) _ rfl w3.heap.size 109 rfl inf_ml rfl (by decide) rfl HOW5.out rfl (HT2.out _ HB5.out) (mcs_one _) (by omega) (by omega) (Below.refl _ _) HSZ5.out ?_; rw [Nat.zero_add, ← mcs_append]; intro p6 c6 w6 hown6 hb6 hs6 hg6 hnb6; have HB6 := Lib.hid (HB5.out.trans hb6); have HOW6 := Lib.hid hown6; clear hb6 hs6 hown6 hg6 hnb6)
            | (refine step_app (W := (w5.alloc (.cells #[.int .i64 0, .slice none 0 0, .slice none 0 0] 86))) (w0 := (w5.alloc (.cells #[.int .i64 0, .slice none 0 0, .slice none 0 0] 86))) (n := 0) (xs := mcs (l.drop k)) rfl (.tmp 44) (.tmp 48) _ rfl w3.heap.size 109 rfl inf_ml rfl (by decide) rfl (HOW5.out.alloc _) rfl (HT2.out _ (HB5.out.alloc HSZ5.out (.cells #[.int .i64 0, .slice none 0 0, .slice none 0 0] 86))) (mcs_one _) (by omega) (by omega) (Below.refl _ _) (by have := HSZ5.out; simp; omega) ?_; rw [Nat.zero_add, ← mcs_append]; intro p6 c6 w6 hown6 hb6 hs6 hg6 hnb6; have HZ6 := Lib.hid ((bx_new w5 [.int .i64 0, .slice none 0 0, .slice none 0 0] 86).grown hg6 (fun e => by have := (HOW5.out.lt _ e).2; omega)); have HB6 := Lib.hid ((HB5.out.alloc HSZ5.out (.cells #[.int .i64 0, .slice none 0 0, .slice none 0 0] 86)).trans hb6); have HOW6 := Lib.hid hown6; clear hb6 hs6 hown6 hg6 hnb6)
            | (go_at_call 34; rw [HWY.out]; with_reducible refine (HF.out ky hky _ HTU.out w6 p6 c6 (Sl.of_own HOW6.out)).mono ?_; rintro e w7 ⟨p7, p8, n7, n8, c7, c8, mo7, q7, rfl, hb7, HQ7, HDR7⟩; have HZ7 := Lib.hid (HZ6.out.next hb7); have HB7 := Lib.hid (HB6.out.trans (hb7.mono HB6.out.size)); obtain ⟨hy0, hy1, hy2, hy3, hy4, hy5⟩ := HZ7.out.three; have HLT := Lib.hid HZ6.out.lt; clear hb7)
            | (go_at_call 34; rw [HWY.out]; with_reducible refine (HF.out ky hky _ HTU.out w6 p6 c6 (Sl.of_own HOW6.out)).mono ?_; rintro e w7 ⟨p7, p8, n7, n8, c7, c8, mo7, q7, rfl, hb7, HQ7, HDR7⟩; have HB7 := Lib.hid (HB6.out.trans (hb7.mono HB6.out.size)); clear hb7)
            | (go_at_call 34; rw [HWY.out]; with_reducible refine (HF.out ky hky _ HTU.out (w6.alloc (.cells #[.int .i64 0, .slice none 0 0, .slice none 0 0] 86)) p6 c6 (Sl.of_own (HOW6.out.alloc _))).mono ?_; rintro e w7 ⟨p7, p8, n7, n8, c7, c8, mo7, q7, rfl, hb7, HQ7, HDR7⟩; have HZ7 := Lib.hid (Bx.next (bx_new w6 [.int .i64 0, .slice none 0 0, .slice none 0 0] 86) hb7); have HB7 := Lib.hid ((HB6.out.alloc HB6.out.size (.cells #[.int .i64 0, .slice none 0 0, .slice none 0 0] 86)).trans (hb7.mono (by have := HB6.out.size; simp; omega))); obtain ⟨hy0, hy1, hy2, hy3, hy4, hy5⟩ := HZ7.out.three; clear hb7)
            | fail)
        all_goals go_wp2_with fail
        all_goals go_meet
        case rel => exact ⟨_, p7, p8, n7, n8, c7, c8, mo7, q7, rfl, rfl, rfl, Lib.hid (bx_new w7 _ _), Lib.hid (HB7.out.alloc HB7.out.size _), Lib.hid (HQ7.out.isQ.later (alloc_below w7 _)), HDR7⟩
        case rel =>
          have hg1 := grown_trans (grown_set (w := w7) (s := w6.heap.size) (i := 0) (u := .int .i64 (1 + (ky : Int)))) (grown_trans (grown_set (s := w6.heap.size) (i := 1) (u := .slice p7 n7 c7)) (grown_set (s := w6.heap.size) (i := 2) (u := .slice p8 n8 c8)))
          exact ⟨_, p7, p8, n7, n8, c7, c8, mo7, q7, rfl, rfl, rfl, Lib.hid (((HZ7.out.setc 0 _).setc 1 _).setc 2 _), Lib.hid (((HB7.out.setCell HB6.out.size _).setCell HB6.out.size _).setCell HB6.out.size _), Lib.hid ((HQ7.out.grown hg1 (fun k hk => by cases hk; exact (by simp))).isQ), HDR7⟩
        case rel =>
          have hg1 := grown_trans (grown_set (w := w7) (s := w5.heap.size) (i := 0) (u := .int .i64 (1 + (ky : Int)))) (grown_trans (grown_set (s := w5.heap.size) (i := 1) (u := .slice p7 n7 c7)) (grown_set (s := w5.heap.size) (i := 2) (u := .slice p8 n8 c8)))
          exact ⟨_, p7, p8, n7, n8, c7, c8, mo7, q7, rfl, rfl, rfl, Lib.hid (((HZ7.out.setc 0 _).setc 1 _).setc 2 _), Lib.hid (((HB7.out.setCell HSZ5.out _).setCell HSZ5.out _).setCell HSZ5.out _), Lib.hid ((HQ7.out.grown hg1 (fun k hk => by cases hk; exact HLT.out)).isQ), HDR7⟩
        case rel =>
          have hg1 := grown_trans (grown_set (w := w7) (s := w3.heap.size) (i := 0) (u := .int .i64 (1 + (ky : Int)))) (grown_trans (grown_set (s := w3.heap.size) (i := 1) (u := .slice p7 n7 c7)) (grown_set (s := w3.heap.size) (i := 2) (u := .slice p8 n8 c8)))
          exact ⟨_, p7, p8, n7, n8, c7, c8, mo7, q7, rfl, rfl, rfl, Lib.hid (((HZ7.out.setc 0 _).setc 1 _).setc 2 _), Lib.hid (((HB7.out.setCell (Nat.le_refl _) _).setCell (Nat.le_refl _) _).setCell (Nat.le_refl _) _), Lib.hid ((HQ7.out.grown hg1 (fun k hk => by cases hk; exact HLT.out)).isQ), HDR7⟩
        case rel =>
          have hg1 := grown_trans (grown_set (w := w7) (s := w3.heap.size) (i := 0) (u := .int .i64 (1 + (ky : Int)))) (grown_trans (grown_set (s := w3.heap.size) (i := 1) (u := .slice p7 n7 c7)) (grown_set (s := w3.heap.size) (i := 2) (u := .slice p8 n8 c8)))
          exact ⟨_, p7, p8, n7, n8, c7, c8, mo7, q7, rfl, rfl, rfl, Lib.hid (((HZ7.out.setc 0 _).setc 1 _).setc 2 _), Lib.hid (((HB7.out.setCell (Nat.le_refl _) _).setCell (Nat.le_refl _) _).setCell (Nat.le_refl _) _), Lib.hid ((HQ7.out.grown hg1 (fun k hk => by cases hk; exact HLT.out)).isQ), HDR7⟩
      · have HT1 := Lib.hid (fun (W : World) (hW : Below w3.heap.size w3 W) => (show Sl W 2 (.slice (some ⟨qb, k * 2, none⟩) (n - k) (d1 - k)) (n - k) (mcs (l.drop k)) from by
          have h := sl_piece HS3.out k n (d1 - k) (k * 2) HKN.out (Nat.le_refl _) (by omega) (by omega) (.inl (by omega))
          rw [List.take_of_length_le (by rw [List.length_drop, ← HN.out]; exact Nat.le_refl _)] at h
          exact h.later hW))
        have HT2 := Lib.hid (fun (W : World) (hW : Below w3.heap.size w3 W) => (show Sl W 2 (.slice (some ⟨qb, 0, none⟩) k k) k (mcs (l.take k)) from by
          have h := sl_piece HS3.out 0 k k 0 (Nat.zero_le _) HKN.out (Nat.le_refl _) (by omega) (.inl (by omega))
          rw [List.drop_zero] at h
          exact h.later hW))
        have HWY := Lib.hid (show IntKind.i64.wrap (1 + (ky : Int)) = 1 + (ky : Int) from IntWalk.i64_in _ (by omega))
        have HA3 := Lib.hid (alloc_below w3 (.cells #[.int .i64 0, .slice none 0 0, .slice none 0 0] 86))
        have HZ3D := Lib.hid (show Bx (w3.alloc (.cells #[.int .i64 0, .slice none 0 0, .slice none 0 0] 86)).drew w3.heap.size [.int .i64 0, .slice none 0 0, .slice none 0 0] from bx_new w3 _ _)
        have hsz3 : (w3.alloc (.cells #[.int .i64 0, .slice none 0 0, .slice none 0 0] 86)).heap.size = w3.heap.size + 1 := by simp
        go_region_held3 (fun w' => True) (trivial)
          (first
            | (go_at_call 15; refine (HPY.out _).mono ?_; rintro e wn ⟨rfl, rfl⟩)
            | (refine step_app (w0 := w3) (n := 0) (xs := []) rfl (.const (.slice none 0 0)) (.tmp 43) _ rfl w3.heap.size 109 rfl inf_ml rfl (by decide) rfl (World.ownsRow_nil _ _ _ _) rfl (HT1.out _ (Below.refl _ w3).drew) (mcs_one _) (by omega) (by omega) (Below.refl _ w3).drew (Nat.le_refl _) ?_; rw [Nat.zero_add, List.nil_append]; intro p5 c5 w5 hown5 hb5 hs5 hg5 hnb5; have HB5 := Lib.hid hb5; have HOW5 := Lib.hid hown5; have HSZ5 := Lib.hid hs5; clear hb5 hs5 hown5 hg5 hnb5)
            | (refine step_app (w0 := (w3.alloc (.cells #[.int .i64 0, .slice none 0 0, .slice none 0 0] 86))) (n := 0) (xs := []) rfl (.const (.slice none 0 0)) (.tmp 43) _ rfl (w3.heap.size + 1) 109 rfl inf_ml rfl (by decide) rfl (World.ownsRow_nil _ _ _ _) rfl (HT1.out _ HA3.out.drew) (mcs_one _) (by omega) (by omega) (Below.refl _ _).drew (by show w3.heap.size + 1 ≤ (w3.alloc (.cells #[.int .i64 0, .slice none 0 0, .slice none 0 0] 86)).heap.size; omega) ?_; rw [Nat.zero_add, List.nil_append]; intro p5 c5 w5 hown5 hb5 hs5 hg5 hnb5; have HEARLY := Lib.hid (show Bx w5 w3.heap.size [.int .i64 0, .slice none 0 0, .slice none 0 0] from HZ3D.out.grown hg5 (fun e => by cases e)); have HB5 := Lib.hid (below_next HA3.out (Nat.le_refl _) (by rw [hsz3]; exact hb5)); have HOW5 := Lib.hid hown5; have HSZ5 := Lib.hid hs5; clear hb5 hs5 hown5 hg5 hnb5)
            | (refine step_app (W := w5) (w0 := w5) (n := n - k) (xs := mcs (l.drop k)) rfl (.tmp 44) (.tmp 48) _ rfl (w3.heap.size + 1) 109 rfl inf_ml rfl (by decide) rfl HOW5.out rfl (HT2.out _ HB5.out) (mcs_one _) (by omega) (by omega) (Below.refl _ _) HSZ5.out ?_; rw [HKN2.out, ← mcs_append]; intro p6 c6 w6 hown6 hb6 hs6 hg6 hnb6; have HZ6 := Lib.hid (HEARLY.out.grown hg6 (fun e => by have := (HOW5.out.lt _ e).1; omega)); have HB6 := Lib.hid (HB5.out.trans (hb6.mono (Nat.le_succ _))); have HOW6 := Lib.hid hown6; clear hb6 hs6 hown6 hg6 hnb6)
            | (refine step_app (W := w5) (w0 := w5) (n := n - k) (xs := mcs (l.drop k)) rfl (.tmp 44) (.tmp 48) _ rfl w3.heap.size 109 rfl inf_ml rfl (by decide) rfl HOW5.out rfl (HT2.out _ HB5.out) (mcs_one _) (by omega) (by omega) (Below.refl _ _) HSZ5.out ?_; rw [HKN2.out, ← mcs_append]; intro p6 c6 w6 hown6 hb6 hs6 hg6 hnb6; have HB6 := Lib.hid (HB5.out.trans hb6); have HOW6 := Lib.hid hown6; clear hb6 hs6 hown6 hg6 hnb6)
            | (refine step_app (W := (w5.alloc (.cells #[.int .i64 0, .slice none 0 0, .slice none 0 0] 86))) (w0 := (w5.alloc (.cells #[.int .i64 0, .slice none 0 0, .slice none 0 0] 86))) (n := n - k) (xs := mcs (l.drop k)) rfl (.tmp 44) (.tmp 48) _ rfl w3.heap.size 109 rfl inf_ml rfl (by decide) rfl (HOW5.out.alloc _) rfl (HT2.out _ (HB5.out.alloc HSZ5.out (.cells #[.int .i64 0, .slice none 0 0, .slice none 0 0] 86))) (mcs_one _) (by omega) (by omega) (Below.refl _ _) (by have := HSZ5.out; simp; omega) ?_; rw [HKN2.out, ← mcs_append]; intro p6 c6 w6 hown6 hb6 hs6 hg6 hnb6; have HZ6 := Lib.hid ((bx_new w5 [.int .i64 0, .slice none 0 0, .slice none 0 0] 86).grown hg6 (fun e => by have := (HOW5.out.lt _ e).2; omega)); have HB6 := Lib.hid ((HB5.out.alloc HSZ5.out (.cells #[.int .i64 0, .slice none 0 0, .slice none 0 0] 86)).trans hb6); have HOW6 := Lib.hid hown6; clear hb6 hs6 hown6 hg6 hnb6)
            | (go_at_call 34; rw [HWY.out]; with_reducible refine (HF.out ky hky _ HTU.out w6 p6 c6 (Sl.of_own HOW6.out)).mono ?_; rintro e w7 ⟨p7, p8, n7, n8, c7, c8, mo7, q7, rfl, hb7, HQ7, HDR7⟩; have HZ7 := Lib.hid (HZ6.out.next hb7); have HB7 := Lib.hid (HB6.out.trans (hb7.mono HB6.out.size)); obtain ⟨hy0, hy1, hy2, hy3, hy4, hy5⟩ := HZ7.out.three; have HLT := Lib.hid HZ6.out.lt; clear hb7)
            | (go_at_call 34; rw [HWY.out]; with_reducible refine (HF.out ky hky _ HTU.out w6 p6 c6 (Sl.of_own HOW6.out)).mono ?_; rintro e w7 ⟨p7, p8, n7, n8, c7, c8, mo7, q7, rfl, hb7, HQ7, HDR7⟩; have HB7 := Lib.hid (HB6.out.trans (hb7.mono HB6.out.size)); clear hb7)
            | (go_at_call 34; rw [HWY.out]; with_reducible refine (HF.out ky hky _ HTU.out (w6.alloc (.cells #[.int .i64 0, .slice none 0 0, .slice none 0 0] 86)) p6 c6 (Sl.of_own (HOW6.out.alloc _))).mono ?_; rintro e w7 ⟨p7, p8, n7, n8, c7, c8, mo7, q7, rfl, hb7, HQ7, HDR7⟩; have HZ7 := Lib.hid (Bx.next (bx_new w6 [.int .i64 0, .slice none 0 0, .slice none 0 0] 86) hb7); have HB7 := Lib.hid ((HB6.out.alloc HB6.out.size (.cells #[.int .i64 0, .slice none 0 0, .slice none 0 0] 86)).trans (hb7.mono (by have := HB6.out.size; simp; omega))); obtain ⟨hy0, hy1, hy2, hy3, hy4, hy5⟩ := HZ7.out.three; clear hb7)
            | fail)
        all_goals go_wp2_with fail
        all_goals go_meet
        case rel => exact ⟨_, p7, p8, n7, n8, c7, c8, mo7, q7, rfl, rfl, rfl, Lib.hid (bx_new w7 _ _), Lib.hid (HB7.out.alloc HB7.out.size _), Lib.hid (HQ7.out.isQ.later (alloc_below w7 _)), HDR7⟩
        case rel =>
          have hg1 := grown_trans (grown_set (w := w7) (s := w6.heap.size) (i := 0) (u := .int .i64 (1 + (ky : Int)))) (grown_trans (grown_set (s := w6.heap.size) (i := 1) (u := .slice p7 n7 c7)) (grown_set (s := w6.heap.size) (i := 2) (u := .slice p8 n8 c8)))
          exact ⟨_, p7, p8, n7, n8, c7, c8, mo7, q7, rfl, rfl, rfl, Lib.hid (((HZ7.out.setc 0 _).setc 1 _).setc 2 _), Lib.hid (((HB7.out.setCell HB6.out.size _).setCell HB6.out.size _).setCell HB6.out.size _), Lib.hid ((HQ7.out.grown hg1 (fun k hk => by cases hk; exact (by simp))).isQ), HDR7⟩
        case rel =>
          have hg1 := grown_trans (grown_set (w := w7) (s := w5.heap.size) (i := 0) (u := .int .i64 (1 + (ky : Int)))) (grown_trans (grown_set (s := w5.heap.size) (i := 1) (u := .slice p7 n7 c7)) (grown_set (s := w5.heap.size) (i := 2) (u := .slice p8 n8 c8)))
          exact ⟨_, p7, p8, n7, n8, c7, c8, mo7, q7, rfl, rfl, rfl, Lib.hid (((HZ7.out.setc 0 _).setc 1 _).setc 2 _), Lib.hid (((HB7.out.setCell HSZ5.out _).setCell HSZ5.out _).setCell HSZ5.out _), Lib.hid ((HQ7.out.grown hg1 (fun k hk => by cases hk; exact HLT.out)).isQ), HDR7⟩
        case rel =>
          have hg1 := grown_trans (grown_set (w := w7) (s := w3.heap.size) (i := 0) (u := .int .i64 (1 + (ky : Int)))) (grown_trans (grown_set (s := w3.heap.size) (i := 1) (u := .slice p7 n7 c7)) (grown_set (s := w3.heap.size) (i := 2) (u := .slice p8 n8 c8)))
          exact ⟨_, p7, p8, n7, n8, c7, c8, mo7, q7, rfl, rfl, rfl, Lib.hid (((HZ7.out.setc 0 _).setc 1 _).setc 2 _), Lib.hid (((HB7.out.setCell (Nat.le_refl _) _).setCell (Nat.le_refl _) _).setCell (Nat.le_refl _) _), Lib.hid ((HQ7.out.grown hg1 (fun k hk => by cases hk; exact HLT.out)).isQ), HDR7⟩
        case rel =>
          have hg1 := grown_trans (grown_set (w := w7) (s := w3.heap.size) (i := 0) (u := .int .i64 (1 + (ky : Int)))) (grown_trans (grown_set (s := w3.heap.size) (i := 1) (u := .slice p7 n7 c7)) (grown_set (s := w3.heap.size) (i := 2) (u := .slice p8 n8 c8)))
          exact ⟨_, p7, p8, n7, n8, c7, c8, mo7, q7, rfl, rfl, rfl, Lib.hid (((HZ7.out.setc 0 _).setc 1 _).setc 2 _), Lib.hid (((HB7.out.setCell (Nat.le_refl _) _).setCell (Nat.le_refl _) _).setCell (Nat.le_refl _) _), Lib.hid ((HQ7.out.grown hg1 (fun k hk => by cases hk; exact HLT.out)).isQ), HDR7⟩
  case rest =>
  obtain ⟨g5, p5, p6, n5, n6, c5, c6, mo5, q5, rfl, rfl, rfl, HX5, HB5, HQ5, HDR5⟩ := hcut
  obtain ⟨w5, rfl⟩ : ∃ w5 : World, w5 = wc := ⟨_, rfl⟩
  have HX35 := Lib.hid (HX3.out.next HB5.out)
  have HQ35 := Lib.hid (HQ3.out.later HB5.out)
  have HW5 := Lib.hid (HB3.out.trans (HB5.out.mono HB3.out.size))
  obtain ⟨hx0, hx1, hx2, _, _, _⟩ := HX35.out.three
  go_wp2_with fail
  refine (HDR2.out _ HQ35.out).mono ?_; rintro e w6 ⟨p7, c7, rfl, hs6, hb6⟩
  have HS6 := Lib.hid hs6
  have HX6 := Lib.hid (HX5.out.next hb6)
  have HQ6 := Lib.hid (HQ5.out.later hb6)
  have HW6 := Lib.hid (HW5.out.trans (hb6.mono HW5.out.size))
  clear hs6 hb6 hx0 hx1 hx2
  obtain ⟨hx0, hx1, hx2, _, _, _⟩ := HX6.out.three
  go_wp2_with fail
  refine (HDR5.out _ HQ6.out).mono ?_; rintro e w7 ⟨p8, c8, rfl, hs7, hb7⟩
  have HS7 := Lib.hid hs7
  have HS67 := Lib.hid (HS6.out.later hb7)
  have HW7 := Lib.hid (HW6.out.trans (hb7.mono HW6.out.size))
  have hnn : ((n : Int) == (n : Int)) = true := by simp
  clear hs7 hb7 hx0 hx1 hx2
  go_wp2_with (go_at_call 21; refine (sameMail_any _ _ _ _ _ _ _ _ _ HS67.out HS7.out rfl).mono ?_; rintro e w8 ⟨rfl, hb8⟩)
  go_ret
  exact ⟨rfl, HW7.out.trans (hb8.mono HW7.out.size)⟩
end Go.Proofs.Ytcaolnpkpialdaa
