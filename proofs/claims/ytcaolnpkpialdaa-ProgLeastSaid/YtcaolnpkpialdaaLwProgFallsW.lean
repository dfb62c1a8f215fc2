/- The walk of the law ProgFalls. -/
import Derived.Test.YtcaolnpkpialdaaValues
import Derived.Test.YtcaolnpkpialdaaWkW1
import Derived.Deep.RegionHeld3
import Derived.Deep.DeepCutAuto
namespace Go.Proofs.Ytcaolnpkpialdaa
open Go.RowKit
/-- Wake of the two jobs that hand on the least -/
theorem wake_low (k : Nat) (hk : k = 1 ∨ k = 2) (p : Option Addr) (c : Nat) (v src a b : Int) (l : List Int) (w : World) (hl : IsI w (.slice p l.length c) l) (hv : 0 ≤ v) (hv2 : v < 200) (ha : -1 ≤ a) (ha2 : a ≤ 199) (hb : -1 ≤ b) (hb2 : b < 200) (hm : ∀ m ∈ l, 0 ≤ m ∧ m ≤ 199) :
    Calls Try.prog 22 #[.int .i64 (k : Int), .int .i64 v, .int .i64 src, .agg #[.int .i64 a, .int .i64 b], .int .i64 0, .bool false, .slice p l.length c] w fun e w' => e = .returned (.tuple #[.agg #[.int .i64 (lwA a l), .int .i64 b], .bool (lwS a false l), .int .i64 0]) ∧ Below w.heap.size w w' := by
  rcases hk with rfl | rfl
  · exact wake_dist p c v src a b l w hl hv hv2 ha ha2 hb hb2 hm
  · exact wake_weak p c v src a b l w hl hv hv2 ha ha2 hb hb2 hm
set_option linter.unusedVariables false in
set_option maxHeartbeats 8000000 in
set_option maxRecDepth 100000 in
theorem progFalls_walk (w : World) (x : Int) (hx0 : -9223372036854775808 ≤ x) (hx1 : x ≤ 9223372036854775807) (y : Int) (hy0 : -9223372036854775808 ≤ y) (hy1 : y ≤ 9223372036854775807) (z : Int) (hz0 : -9223372036854775808 ≤ z) (hz1 : z ≤ 9223372036854775807) (v3 : Value) (L : List Int) (h3 : IsI w v3 L) :
    Calls Try.prog 5 #[.int .i64 x, .int .i64 y, .int .i64 z, v3] w fun e w' => e = .returned (.bool true) ∧ Below w.heap.size w w' := by
  obtain ⟨p3, c3, rfl⟩ := h3.val
  obtain ⟨-, hlc, hc63⟩ := h3.lens
  have HPX := Lib.hid (fun w' => picked_i x 2 2 w' rfl hx0 hx1 (by omega) (by omega))
  have HPY := Lib.hid (fun w' => picked_i y 20 20 w' rfl hy0 hy1 (by omega) (by omega))
  have HPZ := Lib.hid (fun w' => picked_i z 21 21 w' rfl hz0 hz1 (by omega) (by omega))
  have HVL := Lib.hid (fun (W : World) (hW : Below w.heap.size w W) => values_ok p3 c3 L W (h3.later hW))
  have hxa := pickN_lt x (m := 2) (by omega)
  have hya := pickN_lt y (m := 20) (by omega)
  have hza := pickN_lt z (m := 21) (by omega)
  generalize pickN x 2 = k at *
  generalize pickN y 20 = v at *
  obtain ⟨a, hae⟩ : ∃ a : Int, a = (pickN z 21 : Int) - 1 := ⟨_, rfl⟩
  have ha : -1 ≤ a := by omega
  have ha2 : a ≤ 19 := by omega
  have hae' : (pickN z 21 : Int) - 1 = a := hae.symm
  generalize pickN z 21 = zz at *
  have HW := Lib.hid (fun (W : World) (p : Option Addr) (c : Nat) (h : IsI W (.slice p (valF L).length c) (valF L)) => (show Calls Try.prog 22 #[.int .i64 (1 + (k : Int)), .int .i64 (v : Int), .int .i64 0, .agg #[.int .i64 a, .int .i64 (-1)], .int .i64 0, .bool false, .slice p (valF L).length c] W fun e w' => e = .returned (.tuple #[.agg #[.int .i64 (lwA a (valF L)), .int .i64 (-1)], .bool (lwS a false (valF L)), .int .i64 0]) ∧ Below W.heap.size W w' from by
    have := wake_low (1 + k) (by omega) p c (v : Int) 0 a (-1) (valF L) W h (by omega) (by omega) ha (by omega) (by omega) (by omega) (fun m hm => by have := valF_bd m hm; omega)
    rw [show ((1 + k : Nat) : Int) = 1 + (k : Int) by omega] at this
    exact this))
  obtain ⟨h1, h2, h3', h4, -, -, -⟩ := lw_all (valF L) a ha (fun m hm => (valF_bd m hm).1)
  have h4' : a = -1 → L ≠ [] → lwS a false (valF L) = true := fun e hn => h4 e (valF_nil hn)
  have HVB := Lib.hid (fun (x : Int) (hx : x ∈ valF L) => show 0 ≤ x ∧ x ≤ 200 by have := valF_bd (l := L) x hx; omega)
  have hvl := valF_len L
  generalize valF L = T at *
  generalize lwA a T = A at *
  generalize lwS a false T = sd at *
  have H1 := Lib.hid h1
  have H2 := Lib.hid h2
  have H3 := Lib.hid h3'
  have H4 := Lib.hid h4'
  have HAE := Lib.hid hae'
  have HA := Lib.hid ha
  clear h3 hae h1 h2 h3' h4 h4' hx0 hx1 hy0 hy1 hz0 hz1 hza
  obtain ⟨n, hn⟩ : ∃ n, n = L.length := ⟨_, rfl⟩
  have HN := Lib.hid hn
  rw [← hn] at hlc HVL ⊢
  clear hn
  go_enter Try.func5, Try.ntmps5
  go_wp2_with fail
  refine (HPX.out _).mono ?_; rintro e wn ⟨rfl, rfl⟩
  go_wp2_with fail
  refine (HPZ.out _).mono ?_; rintro e wn ⟨rfl, rfl⟩
  obtain ⟨b1, B1, z1⟩ := boxed0 w [.int .i64 a, .int .i64 (-1)] 49
  go_upto_region 3 with fail
  generalize (w.alloc (.cells #[.int .i64 a, .int .i64 (-1)] 49)) = w1 at *
  obtain ⟨gx, hgx⟩ : ∃ gx, gx = w.heap.size := ⟨_, rfl⟩
  rw [← hgx] at B1 ⊢
  have hgl : gx < w1.heap.size := by omega
  clear hgx
  obtain ⟨hx0, hx1, _, _⟩ := B1.two
  have HVC := Lib.hid (fun (W : World) (hW : Below w1.heap.size w1 W) => HVL.out W (b1.trans (hW.mono (by omega))))
  go_cut [11, 12, 13] (fun s11 s12 s13 wx => ∃ g, s11 = .pointer (some ⟨g, 0, none⟩) ∧ s12 = .bool sd ∧ s13 = .int .i64 0 ∧ Bx wx g [.int .i64 A, .int .i64 (-1)] ∧ Bx wx gx [.int .i64 a, .int .i64 (-1)] ∧ Below w1.heap.size w1 wx)
  case first =>
    have hcur : Below w1.heap.size w1 w1 := Below.refl _ _
    have hk0 := hx0
    have hk1 := hx1
    have hn1 : ¬ gx = w1.heap.size := by omega
    have hn2 : ¬ w1.heap.size = gx := by omega
    go_region_held3 (fun w' => w'.cell? ⟨gx, 0, none⟩ = some (Value.int .i64 a) ∧ w'.cell? ⟨gx, 1, none⟩ = some (Value.int .i64 (-1))) (first | (exact ⟨hk0, hk1⟩) | go_keep)
      (first
        | (go_at_call 15; refine (HPY.out _).mono ?_; rintro e wn ⟨rfl, rfl⟩)
        | (go_at_call 23; refine (HVC.out _ hcur.drew).mono ?_; rintro e w2 ⟨p2, c2, rfl, ho2, hb2⟩; have hcur2 : Below w1.heap.size w1 w2 := hcur.drew.trans (hb2.mono hcur.size); have hn3 : ¬ gx = w2.heap.size := (by have := hcur2.size; omega); have hn4 : ¬ w2.heap.size = gx := (by have := hcur2.size; omega); obtain ⟨hk0, hk1, _, _⟩ := (B1.next hcur2).two)
        | (go_at_call 23; refine (HVC.out _ (alloc_below w1 (.cells #[.int .i64 0, .int .i64 0] 49)).drew).mono ?_; rintro e w2 ⟨p2, c2, rfl, ho2, hb2⟩; have hcur2 : Below w1.heap.size w1 w2 := below_next (alloc_below w1 (.cells #[.int .i64 0, .int .i64 0] 49)).drew (Nat.le_refl _) hb2; have hbz := Bx.next (show Bx (w1.alloc (.cells #[.int .i64 0, .int .i64 0] 49)).drew w1.heap.size [.int .i64 0, .int .i64 0] from bx_new w1 _ _) hb2; obtain ⟨hz0, hz1, hf0, hf1⟩ := hbz.two; obtain ⟨hk0, hk1, _, _⟩ := (B1.next hcur2).two)
        | (go_at_call 22; refine (HW.out w2 _ _ (isI_own ho2 HVB.out)).mono ?_; rintro e w3 ⟨rfl, hb3⟩; have hcur3 : Below w1.heap.size w1 w3 := hcur2.trans (hb3.mono hcur2.size); have hn5 : ¬ gx = w3.heap.size := (by have := hcur3.size; omega); have hn6 : ¬ w3.heap.size = gx := (by have := hcur3.size; omega); (first | (replace hbz := hbz.next hb3; obtain ⟨hz0, hz1, hf0, hf1⟩ := hbz.two) | skip); obtain ⟨hk0, hk1, _, _⟩ := (B1.next hcur3).two)
        | (go_at_call 22; refine (HW.out _ _ _ (isI_own (ho2.alloc _) HVB.out)).mono ?_; rintro e w3 ⟨rfl, hb3⟩; have hcur3 : Below w1.heap.size w1 w3 := (hcur2.alloc hcur2.size _).trans (hb3.mono (by have := hcur2.size; simp; omega)); have hbz := (show Bx (w2.alloc (.cells #[.int .i64 0, .int .i64 0] 49)) w2.heap.size [.int .i64 0, .int .i64 0] from bx_new w2 _ _).next hb3; obtain ⟨hz0, hz1, hf0, hf1⟩ := hbz.two; obtain ⟨hk0, hk1, _, _⟩ := (B1.next hcur3).two))
    all_goals go_wp2_with fail
    all_goals go_meet
    all_goals
      have B3 := B1.next hcur3
      have hz1' := hcur2.size
      have hz2' := hcur3.size
      have hq1 : gx ≠ w1.heap.size := by omega
      have hq2 : gx ≠ w2.heap.size := by omega
      first
        | exact ⟨_, rfl, rfl, rfl, bx_new w3 _ _, B3.next (alloc_below w3 _), hcur3.alloc hcur3.size _⟩
        | exact ⟨_, rfl, rfl, rfl, (hbz.setc 0 _).setc 1 _, bx_oth (bx_oth B3 (by first | exact hq1 | exact hq2) _) (by first | exact hq1 | exact hq2) _, (hcur3.setCell (by first | exact Nat.le_refl _ | exact hz1') _).setCell (by first | exact Nat.le_refl _ | exact hz1') _⟩
  case rest =>
    obtain ⟨g, rfl, rfl, rfl, hA, hB, hb⟩ := hcut
    obtain ⟨ha0, ha1, _, _⟩ := hA.two
    obtain ⟨hb0, hb1, _, _⟩ := hB.two
    have hfin := Lib.hid (b1.trans (hb.mono (by omega)))
    have hA1 := H2.out
    have hd0 : decide (-1 ≤ A) = true := decide_eq_true hA1
    have hpost : ∀ (o : Int × Bool), True := fun _ => trivial
    clear hpost
    by_cases hAa : A = a
    · subst hAa
      have hsd : sd = false := by rw [H1.out]; simp
      subst hsd
      have hd1 : decide (A ≤ A) = true := by simp
      by_cases hn1 : A = -1
      · have hL : L = [] := by
          rcases L with _ | ⟨q, L⟩
          · rfl
          · have := H4.out hn1 (by simp); cases this
        have hn0 : n = 0 := by rw [HN.out, hL]; rfl
        subst hn1
        subst hn0
        clear hL
        go_wp2_with fail
        go_ret
        exact ⟨rfl, hfin.out⟩
      · have he1 : (A == -1) = false := by simp; omega
        have hd3 : decide (0 ≤ A) = true := by simp; omega
        have hp0 : 0 ≤ A := by omega
        clear hn1
        go_wp2_with fail
        go_ret
        exact ⟨rfl, hfin.out⟩
    · have hsd : sd = true := by rw [H1.out]; simp [hAa]
      subst hsd
      have he0 : (A == a) = false := by simp [hAa]
      have he00 : (a == A) = false := by simp; omega
      by_cases hn1 : a = -1
      · subst hn1
        clear hAa
        go_wp2_with fail
        go_ret
        exact ⟨rfl, hfin.out⟩
      · have hle : A ≤ a := by rcases H3.out with h | h <;> omega
        have he1 : (a == -1) = false := by simp; omega
        have hd1 : decide (A ≤ a) = true := decide_eq_true hle
        clear hn1 hAa
        go_wp2_with fail
        go_ret
        exact ⟨rfl, hfin.out⟩
end Go.Proofs.Ytcaolnpkpialdaa
