/- The walk of the law FrameSum. -/
import Derived.Test.YtfkjojagdgbhdaaSum
import Derived.Test.YtfkjojagdgbhdaaSome
import Derived.Test.YtfkjojagdgbhdaaPick
import Derived.Deep.DeepCutAuto
import Derived.Lib.SlBytesConst
namespace Go.Proofs.Ytfkjojagdgbhdaa
open Go.RowKit
theorem bys_set (l : List Nat) (i x : Nat) : bys (l.set i x) = (bys l).set i (.int .u8 (x : Int)) := by simp [bys, List.map_set]
/-- a byte of a row of the call's own turned -/
theorem own_flip {w : World} {base : Nat} {e : TypeId} {g cap n : Nat} {l : List Nat} (h : w.ownsRow base e 1 (.slice (some ⟨g, 0, none⟩) n cap) n (bys l)) (hl : AllB l) {i c : Nat} (hi : i < n) (hc : c < 256) :
    ∃ x : Nat, x < 256 ∧ w.cell? ⟨g, i, none⟩ = some (.int .u8 (x : Int)) ∧ w.frozen? ⟨g, i, none⟩ = false ∧
      (w.setCell ⟨g, i, none⟩ (.int .u8 (bits .xor .u8 (x : Int) (c : Int)))).ownsRow base e 1 (.slice (some ⟨g, 0, none⟩) n cap) n (bys (flip l i c)) ∧
      w.grownBy (w.setCell ⟨g, i, none⟩ (.int .u8 (bits .xor .u8 (x : Int) (c : Int)))) (some g) := by
  have hn : n = l.length := by have := h.1; simpa [bys] using this.symm
  subst hn
  have hx : l[i] < 256 := hl _ (List.getElem_mem hi)
  have hcell := h.cellAt i (by omega)
  rw [bys_get hi] at hcell
  have hs := h.stored i (.int .u8 (bits .xor .u8 ((l[i] : Nat) : Int) (c : Int)))
  refine ⟨l[i], hx, hcell, h.frozenAt i, ?_, hs.2⟩
  have e : bys (flip l i c) = (bys l).set i (.int .u8 (bits .xor .u8 ((l[i] : Nat) : Int) (c : Int))) := by
    unfold flip
    rw [bys_set, u8_xor_nat _ _ hx hc, List.getD_eq_getElem?_getD, List.getElem?_eq_getElem hi]
    rfl
  rw [e]
  exact hs.1
set_option maxHeartbeats 2000000 in
set_option maxRecDepth 100000 in
theorem frameSum_walk (w : World) (v1 : Value) (l1 : List Nat) (hl1 : IsB w v1 l1) (v2 : Value) (l2 : List Nat) (hl2 : IsB w v2 l2) (x : Int) (x0 : -9223372036854775808 ≤ x) (x1 : x ≤ 9223372036854775807) (y : Int) (y0 : -9223372036854775808 ≤ y) (y1 : y ≤ 9223372036854775807) :
    Calls Try.prog 6 #[v1, v2, .int .i64 x, .int .i64 y] w fun e w' => e = .returned (.bool true) ∧ Below w.heap.size w w' := by
  obtain ⟨p1, c1, rfl⟩ := hl1.val
  obtain ⟨p2, c2, rfl⟩ := hl2.val
  have HL1 := Lib.hid hl1
  have HL2 := Lib.hid hl2
  clear hl1 hl2
  go_enter Try.func6, Try.ntmps6
  go_upto_region 1 with fail
  go_cut [9] (fun s9 wx => ∃ n : Nat, s9 = .int .i64 (n : Int) ∧ n ≤ l1.length ∧ n ≤ l2.length ∧ n ≤ 200 ∧ wx = w)
  case first =>
    go_wp2_with fail
    all_goals go_meet
    all_goals first
      | exact ⟨200, rfl, by omega, by omega, by omega, rfl⟩
      | exact ⟨l1.length, rfl, by omega, by omega, by omega, rfl⟩
      | exact ⟨l2.length, rfl, by omega, by omega, by omega, rfl⟩
  case rest =>
    obtain ⟨n, rfl, hn1, hn2, hn200, rfl⟩ := hcut
    have e1 : (l1.take n).length = n := by rw [List.length_take]; omega
    have e2 : (l2.take n).length = n := by rw [List.length_take]; omega
    have b1 : AllB (l1.take n) := fun x hx => HL1.out.2 x (List.mem_of_mem_take hx)
    have b2 : AllB (l2.take n) := fun x hx => HL2.out.2 x (List.mem_of_mem_take hx)
    by_cases hn0 : n = 0
    · have hnb : ((n : Int) == 0) = true := by simp <;> omega
      clear hn0 e1 e2 b1 b2
      have kc := fun (w : World) (C : Array Value) (n c : Nat) => Lib.run_convert_bytes_const (P := Try.prog) w 26 5 C n c Try.underlying26 Try.underlying5
      go_wp2_with fail
      refine (sum_any none 0 0 [] wc ⟨⟨none, 0, rfl, Nat.le_refl _, by decide, rfl, fun _ => rfl, .inl rfl⟩, fun x hx => by cases hx⟩).mono ?_; rintro e w1 ⟨rfl, hb1⟩
      have z0 : ((sumL [] : Nat) : Int) = 0 := by decide
      rw [z0]
      clear z0
      go_wp2_with fail
      refine (sum_any (some ⟨w1.heap.size, 0, none⟩) 9 9 [49, 50, 51, 52, 53, 54, 55, 56, 57] _ ?_).mono ?_
      · refine ⟨⟨_, 9, rfl, Nat.le_refl _, by decide, rfl, (fun h => by cases h), .inr ⟨w1.heap.size, 0, rfl, fun j u hj => ?_⟩⟩, by unfold AllB; decide⟩
        rw [World.cell?_alloc_mark, Nat.zero_add]
        rw [← hj]
        simp [bys]
      rintro e w2 ⟨rfl, hb2⟩
      have z1 : ((sumL [49, 50, 51, 52, 53, 54, 55, 56, 57] : Nat) : Int) = 3421780262 := by kernel_rfl
      rw [z1]
      clear z1
      go_wp2_with fail
      go_ret
      exact ⟨rfl, (hb1.alloc hb1.size _).trans (hb2.mono (Nat.le_trans hb1.size (by simp)))⟩
    · have hnb : ((n : Int) == 0) = false := by simp <;> omega
      have hnp : 0 < n := by omega
      clear hn0
      go_wp2_with fail
      refine (some_any p1 c1 _ l1 n _ HL1.out (by omega)).mono ?_; rintro e w1 ⟨q1, d1, rfl, ho1, hb1⟩
      rw [e1] at ho1 ⊢
      generalize l1.take n = a at *
      go_wp2_with fail
      refine (some_any p2 c2 _ l2 n _ (HL2.out.later hb1) (by omega)).mono ?_; rintro e w2 ⟨q2, d2, rfl, ho2, hb2⟩
      rw [e2] at ho2 ⊢
      generalize l2.take n = b at *
      have ho1' := own_later ho1 hb2
      obtain ⟨ga, rfl, hga, hga2⟩ := own_form ho1 hnp
      obtain ⟨gb, rfl, hgb, hgb2⟩ := own_form ho2 hnp
      have HA := Lib.hid b1
      have HB := Lib.hid b2
      have HE1 := Lib.hid e1
      have HE2 := Lib.hid e2
      clear e1 e2 b1 b2
      have hbb2 := hb1.trans (hb2.mono hb1.size)
      have hz2 := Nat.le_trans hb1.size hb2.size
      go_wp2_with fail
      refine (sum_any _ d1 _ a w2 (IsB.of_own ho1' HA.out)).mono ?_; rintro e w3 ⟨rfl, hb3⟩
      have ho1'' := own_later ho1' hb3
      have ho2'' := own_later ho2 hb3
      go_wp2_with fail
      refine (sum_any _ d2 _ b w3 (IsB.of_own ho2'' HB.out)).mono ?_; rintro e w4 ⟨rfl, hb4⟩
      have ha4 := own_later ho1'' hb4
      have hb4' := own_later ho2'' hb4
      obtain ⟨hbb3, hz3⟩ := below_step hbb2 hz2 hb3
      obtain ⟨hbb4, hz4⟩ := below_step hbb3 hz3 hb4
      clear ho1 ho2 ho1' ho1'' ho2'' hb1 hb2 hb3 hb4 hbb2 hbb3 hz2 hz3
      go_wp2_with fail
      refine (picked_any x n _ x0 x1 (by omega) (by omega)).mono ?_; rintro e w' ⟨rfl, rfl⟩
      have hi := pickN_lt x (m := n) (by omega)
      generalize pickN x n = i at hi ⊢
      go_wp2_with fail
      refine (picked_any y 255 _ y0 y1 (by omega) (by omega)).mono ?_; rintro e w' ⟨rfl, rfl⟩
      have hc := pickN_lt y (m := 255) (by omega)
      generalize pickN y 255 = c0 at hc ⊢
      obtain ⟨c, hc0⟩ : ∃ c : Nat, c = 1 + c0 := ⟨_, rfl⟩
      have hc1 : 0 < c := by omega
      have hc2 : c < 256 := by omega
      have hcw : IntKind.u8.wrap (1 + (c0 : Int)) = (c : Int) := by rw [IntKind.wrap_u8]; omega
      have hcw2 : (1 + (c0 : Int)) % 256 = (c : Int) := by omega
      clear x0 x1 y0 y1 hc0
      obtain ⟨xa, hxa, hca, hfa, hoa5, hga5⟩ := own_flip ha4 HA.out hi hc2
      have hne : (Value.slice (some ⟨gb, 0, none⟩) n d2).ownBlock = none ∨ (Value.slice (some ⟨gb, 0, none⟩) n d2).ownBlock ≠ some ga := by right; simp [Value.ownBlock]; omega
      have hob5 := hb4'.kept hga5 hne
      obtain ⟨xb, hxb, hcb, hfb, hob6, hgb6⟩ := own_flip hob5 HB.out hi hc2
      have hne2 : (Value.slice (some ⟨ga, 0, none⟩) n d1).ownBlock = none ∨ (Value.slice (some ⟨ga, 0, none⟩) n d1).ownBlock ≠ some gb := by right; simp [Value.ownBlock]; omega
      have hoa6 := hoa5.kept hgb6 hne2
      have hbel6 := (hbb4.setCell (p := ⟨ga, i, none⟩) hga (.int .u8 (bits .xor .u8 (xa : Int) (c : Int)))).setCell (p := ⟨gb, i, none⟩) (by show wc.heap.size ≤ gb; omega) (.int .u8 (bits .xor .u8 (xb : Int) (c : Int)))
      clear hb4' ha4 hoa5 hga5 hne hob5 hgb6 hne2 hbb4
      go_wp2_with fail
      have fa : AllB (flip a i c) := flip_bytes HA.out hc2
      have fb : AllB (flip b i c) := flip_bytes HB.out hc2
      refine (sum_any _ d1 _ (flip a i c) _ (IsB.of_own hoa6 fa)).mono ?_; rintro e w7 ⟨rfl, hb7⟩
      have hob7 := own_later hob6 hb7
      go_wp2_with fail
      refine (sum_any _ d2 _ (flip b i c) w7 (IsB.of_own hob7 fb)).mono ?_; rintro e w8 ⟨rfl, hb8⟩
      have hsz6 : wc.heap.size ≤ ((w4.setCell ⟨ga, i, none⟩ (.int .u8 (bits .xor .u8 (xa : Int) (c : Int)))).setCell ⟨gb, i, none⟩ (.int .u8 (bits .xor .u8 (xb : Int) (c : Int)))).heap.size := hbel6.size
      obtain ⟨hb7', hz7⟩ := below_step hbel6 hsz6 hb7
      obtain ⟨hb8', _⟩ := below_step hb7' hz7 hb8
      have t1 := sumL_flip HA.out (i := i) (c := c) (by rw [HE1.out]; exact hi) hc2
      have t2 := sumL_flip HB.out (i := i) (c := c) (by rw [HE2.out]; exact hi) hc2
      have t3 := sumL_ne HA.out (i := i) (c := c) (by rw [HE1.out]; exact hi) hc1 hc2
      rw [HE1.out] at t1
      rw [HE2.out] at t2
      have q1 := sumL_lt a
      have q2 := sumL_lt (flip a i c)
      have q3 := sumL_lt b
      have q4 := sumL_lt (flip b i c)
      have y1 := u32_xor_nat _ _ q1 q2
      have y2 := u32_xor_nat _ _ q3 q4
      rw [t1] at y1
      rw [t2] at y2
      have hfin : (bits .xor .u32 ((sumL a : Nat) : Int) ((sumL (flip a i c) : Nat) : Int) == bits .xor .u32 ((sumL b : Nat) : Int) ((sumL (flip b i c) : Nat) : Int)) = true := by rw [y1, y2]; simp
      have hne : (((sumL a : Nat) : Int) != ((sumL (flip a i c) : Nat) : Int)) = true := by simp <;> omega
      generalize sumL a = A1 at *
      generalize sumL b = B1 at *
      generalize sumL (flip a i c) = A2 at *
      generalize sumL (flip b i c) = B2 at *
      clear t1 t2 t3 y1 y2 q1 q2 q3 q4 hoa6 hob6 hob7 hb7 hb8 hca hcb hfa hfb hbel6 hb7'
      go_wp2_with fail
      go_ret
      exact ⟨rfl, hb8'⟩
end Go.Proofs.Ytfkjojagdgbhdaa
