/- The walks of rounds.Check and rounds.Begin. -/
import Derived.Test.YtiaflhlfodcbjaaRdV
import Derived.Test.YtiaflhlfodcbjaaCheck
import Derived.Test.YtiaflhlfodcbjaaHeldL
import Derived.Laws.MakeOwn
namespace Go.Proofs.Ytiaflhlfodcbjaa
open Go.RowKit
set_option maxHeartbeats 2000000 in
set_option maxRecDepth 100000 in
theorem jcheck_ok (p : Option Addr) (c n N kind : Nat) (src : Int) (E : List Eg) (w : World) (h : JobOk w p c n N kind src E) :
    Calls Try.prog 23 #[jobV p c n N kind src] w fun e w' => e = .returned (.int .i64 0) ∧ Below w.heap.size w w' := by
  have HCH := Lib.hid (fun (W : World) (hW : Below w.heap.size w W) => check_ok N n c p E W (h.sl.later hW) h.g (by have := h.N10; omega) (by have := h.n20; omega))
  have hk1 := h.k1
  have hk3 := h.k3
  have hs0 := h.s0
  have hsN := h.sN
  clear h
  unfold jobV
  obtain ⟨b1, B1, z1⟩ := boxed0 w [.int .i64 (N : Int), .slice p n c, .int .i64 (kind : Int), .int .i64 src] 27
  obtain ⟨hx0, hx1, hx2, hx3, _⟩ := B1.four
  have HX := Lib.hid B1
  have HB := Lib.hid b1
  have e1 : decide ((kind : Int) < 1) = false := by simp; omega
  have e2 : decide ((3 : Int) < (kind : Int)) = false := by simp; omega
  have e1' : decide (kind < 1) = false := by simp; omega
  have e2' : decide (3 < kind) = false := by simp; omega
  have e3 : decide (src < 0) = false := by simp; omega
  have e4 : decide ((N : Int) ≤ src) = false := by simp; omega
  clear b1 B1 z1
  go_enter Try.func23, Try.ntmps23
  go_wp2_with fail
  generalize (w.alloc (.cells #[.int .i64 (N : Int), .slice p n c, .int .i64 (kind : Int), .int .i64 src] 27)) = w1 at *
  refine (HCH.out _ HB.out).mono ?_; rintro e w2 ⟨rfl, hb⟩
  obtain ⟨hx0, hx1, hx2, hx3, _⟩ := (HX.out.next hb).four
  have HB2 := Lib.hid (HB.out.trans (hb.mono HB.out.size))
  clear hb
  by_cases hk : kind = 1
  · subst hk
    go_wp2_with fail
    go_ret
    exact ⟨rfl, HB2.out⟩
  · have e5 : ((kind : Int) == 1) = false := by simp; omega
    go_wp2_with fail
    go_ret
    exact ⟨rfl, HB2.out⟩
set_option maxHeartbeats 4000000 in
set_option maxRecDepth 100000 in
theorem begin_ok (p : Option Addr) (c n N kind : Nat) (src : Int) (E : List Eg) (w : World) (h : JobOk w p c n N kind src E) :
    Calls Try.prog 10 #[jobV p c n N kind src] w fun e w' => ∃ v, e = .returned (.tuple #[v, .int .i64 0]) ∧ RdSt w' w.heap.size N v (beginF N) ∧ Below w.heap.size w w' := by
  have HCH := Lib.hid (fun (W : World) (hW : Below w.heap.size w W) => jcheck_ok p c n N kind src E W (h.later hW))
  have hN1 := h.N1
  have hN10 := h.N10
  clear h
  unfold jobV at *
  obtain ⟨b1, B1, z1⟩ := boxed0 w [.int .i64 (N : Int), .slice p n c, .int .i64 (kind : Int), .int .i64 src] 27
  have hs1 : (w.alloc (.cells #[.int .i64 (N : Int), .slice p n c, .int .i64 (kind : Int), .int .i64 src] 27)).heap.size = w.heap.size + 1 := by simp
  obtain ⟨b2, B2, z2⟩ := boxed0 (w.alloc (.cells #[.int .i64 (N : Int), .slice p n c, .int .i64 (kind : Int), .int .i64 src] 27)) [.int .i64 0, .int .i64 0, .bool false, .bool false, .slice none 0 0, .slice none 0 0] 32
  have HB0 := Lib.hid (b1.trans (b2.mono (by omega)))
  have X1 := B1.next b2
  rw [hs1] at B2
  have HX := Lib.hid X1
  have HZ := Lib.hid B2
  obtain ⟨hx0, hx1, hx2, hx3, _⟩ := X1.four
  clear b1 b2 B1 B2 X1 z1 z2 hs1
  go_enter Try.func10, Try.ntmps10
  go_wp2_with fail
  generalize ((w.alloc (.cells #[.int .i64 (N : Int), .slice p n c, .int .i64 (kind : Int), .int .i64 src] 27)).alloc (.cells #[.int .i64 0, .int .i64 0, .bool false, .bool false, .slice none 0 0, .slice none 0 0] 32)) = w0 at *
  obtain ⟨g, hg⟩ : ∃ g, g = w.heap.size := ⟨_, rfl⟩
  have HG := Lib.hid (show w.heap.size ≤ g from Nat.le_of_eq hg.symm)
  rw [← hg] at HX HZ hx0 hx1 hx2 hx3 ⊢
  clear hg
  refine (HCH.out _ HB0.out).mono ?_; rintro e w1 ⟨rfl, hb⟩
  have HX1 := Lib.hid (HX.out.next hb)
  have HZ1 := Lib.hid (HZ.out.next hb)
  have HB1 := Lib.hid (HB0.out.trans (hb.mono HB0.out.size))
  obtain ⟨hx0, hx1, hx2, hx3, _⟩ := HX1.out.four
  obtain ⟨i0, hi, hj0, hj1, hj2⟩ := info_parts inf_ints
  obtain ⟨wm, hrun, hom, hgm⟩ := run_make_full (P := Try.prog) w1 w1.heap.size 30 38 i0 (.slice none 0 0) 1 rfl hi hj0 hj1 .i64 .i64 N (by rw [hj2]; omega) (by unfold maxLen; omega) (Nat.le_refl _)
  have hbm := (Below.refl w1.heap.size _).grown hgm (Nat.le_refl _) (fun k hk => by cases hk)
  have hM : OwnN wm w1.heap.size w1.heap.size (w1.heap.size + 1) N (List.replicate N []) (List.replicate N (.slice none 0 0)) := by
    refine OwnN.made (Nat.lt_succ_self _) ?_
    rw [← toList_madeCells_one]
    rw [Nat.mul_one] at hom
    exact hom
  have hz1 : g + 1 < w1.heap.size := HZ1.out.lt
  have hzm := (hM.outer.lt _ rfl).2
  obtain ⟨gm, hgme⟩ : ∃ gm, gm = w1.heap.size := ⟨_, rfl⟩
  have HX2 := Lib.hid (HX1.out.next hbm)
  have HZ2 := Lib.hid (HZ1.out.next hbm)
  have HB2 := Lib.hid (HB1.out.trans (hbm.mono HB1.out.size))
  rw [← hgme] at hM hrun hz1 hzm
  obtain ⟨b5, B5, z5⟩ := boxed0 wm [.int .i64 0, .int .i64 0, .bool true, .bool false, .slice none 0 0, .slice (some ⟨gm, 0, none⟩) N N] 32
  have HM := Lib.hid (show ∀ W, Below wm.heap.size wm W → RdRows W gm N (.slice (some ⟨gm, 0, none⟩) N N) (List.replicate N []) from fun W hW => (hM.rd (Nat.le_refl _) (Nat.le_succ _)).later hW)
  obtain ⟨hy0, hy1, hy2, hy3, _⟩ := (HX2.out.next b5).four
  clear hb hgme hom hgm hi hj0 hj1 hj2 hbm hM HX HZ HX1 HZ1 HB0 HB1 HCH
  go_wp2_with fail
  generalize hw5 : (wm.alloc (.cells #[.int .i64 0, .int .i64 0, .bool true, .bool false, .slice none 0 0, .slice (some ⟨gm, 0, none⟩) N N] 32)) = w5 at *
  clear hw5
  obtain ⟨g5, hg5⟩ : ∃ g5, g5 = wm.heap.size := ⟨_, rfl⟩
  rw [← hg5] at B5 z5 hzm ⊢
  have HX5 := Lib.hid (HX2.out.next b5)
  have HZ5 := Lib.hid (HZ2.out.next b5)
  have HB5 := Lib.hid (HB2.out.trans (b5.mono HB2.out.size))
  have HM5 := Lib.hid (show ∀ W, Below g5 w5 W → RdRows W gm N (.slice (some ⟨gm, 0, none⟩) N N) (List.replicate N []) from fun W hW => HM.out W (b5.trans (by rw [← hg5]; exact hW)))
  have hsz5 : g5 + 1 ≤ w5.heap.size := z5
  have HT := Lib.hid B5
  clear hg5 B5 b5 HM HX2 HZ2 HB2 hrun hx0 hx1 hx2 hx3 hy0 hy1 hy2 hy3 z5
  go_loopg [20] N (fun gk v20 wr => ∃ (k : Nat) (p' : Option Addr) (c' : Nat), v20 = .int .i64 (k : Int) ∧ k + gk = N ∧ Hid (Bx wr g5 [.int .i64 0, .int .i64 0, .bool true, .bool false, .slice p' k c', .slice (some ⟨gm, 0, none⟩) N N]) ∧ wr.ownsRow (g5 + 1) 40 2 (.slice p' k c') k (vlC (List.replicate k (-1, -1))) ∧ Hid (Bx wr g [.int .i64 (N : Int), .slice p n c, .int .i64 (kind : Int), .int .i64 src]) ∧ Hid (Bx wr (g + 1) [.int .i64 0, .int .i64 0, .bool false, .bool false, .slice none 0 0, .slice none 0 0]) ∧ Hid (Below g5 w5 wr) ∧ g5 + 1 ≤ wr.heap.size)
  case atStart => exact ⟨0, none, 0, rfl, by omega, HT, World.ownsRow_nil _ _ _ _, HX5, HZ5, Lib.hid (Below.refl _ _), hsz5⟩
  case round =>
    clear HT HX5 HZ5 hsz5
    obtain ⟨k, p', c', rfl, hgk, HT, hown, HX, HZ, HB, hsz⟩ := hrel
    have HGK := Lib.hid hgk
    have hk : k ≤ N := by omega
    clear hgk
    obtain ⟨ht0, ht1, ht2, ht3, ht4, ht5⟩ := HT.out.six
    obtain ⟨hf0, hf1, hf2, hf3, hf4, hf5⟩ := HT.out.sixF
    obtain ⟨hx0, hx1, hx2, hx3, _⟩ := HX.out.four
    by_cases hlt : k < N
    · have hd1 : decide ((k : Int) < (N : Int)) = true := by simp; omega
      have hd2 : decide (k < N) = true := by simp; omega
      have hfar := own_far hown (g := g5) (by omega)
      have hfarx := own_far hown (g := g) (by omega)
      have hfarz := own_far hown (g := g + 1) (by omega)
      go_wp2_with (at_builtin; refine wp_app1h (w0 := wr) rfl (.tmp 23) (.tmp 25) _ rfl (g5 + 1) 40 rfl inf_vl rfl (by decide) rfl hown (us := [.int .i64 (-1), .int .i64 (-1)]) rfl rfl rfl (by simp [Value.oneCell']) (by unfold maxLen; omega) (by omega) (Below.refl _ wr) hsz ?_; intro p3 c3 w3 hown3 hb3 hs3 hg3 hnb3; have HT3 := Lib.hid (HT.out.grown hg3 hfar); have HX3 := Lib.hid (HX.out.grown hg3 hfarx); have HZ3 := Lib.hid (HZ.out.grown hg3 hfarz); obtain ⟨ht0, ht1, ht2, ht3, ht4, ht5⟩ := HT3.out.six; obtain ⟨hf0, hf1, hf2, hf3, hf4, hf5⟩ := HT3.out.sixF; have HO3 := Lib.hid (show w3.ownsRow (g5 + 1) 40 2 (.slice p3 (k + 1) c3) (k + 1) (vlC (List.replicate (k + 1) (-1, -1))) from (by rw [List.replicate_succ', vlC_snoc]; exact hown3)); clear hown3)
      go_roundg (N - (k + 1))
      case measure => have := HGK.out; omega
      case rel => exact ⟨k + 1, p3, c3, by go_num, by omega, Lib.hid (HT3.out.setc 4 _), own_setCell HO3.out (by show g5 < g5 + 1; omega) _, Lib.hid (bx_oth HX3.out (by show g ≠ g5; omega) _), Lib.hid (bx_oth HZ3.out (by show g + 1 ≠ g5; omega) _), Lib.hid ((HB.out.trans (hb3.mono (Nat.le_succ _))).setCell (p := ⟨g5, 4, none⟩) (Nat.le_refl _) _), by simpa using hs3⟩
    · obtain rfl : k = N := by omega
      have hd1 : decide ((k : Int) < (k : Int)) = false := by simp
      have hd2 : decide (k < k) = false := by simp
      have hne : ((k : Int) == 0) = false := by simp; omega
      have HO := Lib.hid hown
      obtain ⟨hz0, hz1', hz2, hz3, hz4, hz5⟩ := HZ.out.six
      obtain ⟨hh0, hh1, hh2, hh3, hh4, hh5⟩ := HZ.out.sixF
      have hna : ¬ g + 1 = g5 := by omega
      clear hown hlt
      go_wp2_with fail
      refine bodyPost_ret (v := .tuple #[.agg #[.int .i64 0, .int .i64 0, .bool true, .bool false, .slice p' k c', .slice (some ⟨gm, 0, none⟩) k k], .int .i64 0]) ?_ rfl ⟨_, rfl, ?_, ?_⟩
      · rw [results_cell_tmp rfl]
        go_simp
      · refine RdSt.mono (B := gm) (RdSt.set6 ?_ hz1 _ _ _ _ _ _) (by have := HG.out; omega)
        exact ⟨p', _, c', k, rfl, (RdB.of_own HO.out).mono (by omega), HM5.out wr HB.out, by simp [beginF]⟩
      · exact setc6 (HB5.out.trans (HB.out.mono (by have := HG.out; omega))) (by have := HG.out; omega) _ _ _ _ _ _
end Go.Proofs.Ytiaflhlfodcbjaa
