/- The walks of prog.Wake at every kind, phase and freshness. Printed by genrdk.py. -/
import Derived.Test.YtiaflhlfodcbjaaWkW
import Derived.Test.YtiaflhlfodcbjaaPRnd
namespace Go.Proofs.Ytiaflhlfodcbjaa
open Go.RowKit
set_option linter.unusedVariables false in
set_option maxHeartbeats 8000000 in
set_option maxRecDepth 100000 in
theorem wakeG_1 (p : Option Addr) (c : Nat) (v src a b ra rb : Int) (ph : Nat) (fr rs : Bool) (l : List Int) (w : World) (hl : IsI w (.slice p l.length c) l) (hv : 0 ≤ v) (hv2 : v < 200) (ha : -1 ≤ a) (ha2 : a ≤ 199) (hb : -1 ≤ b) (hb2 : b < 200) (hm : ∀ m ∈ l, 0 ≤ m ∧ m ≤ 199)
    (hph : ∀ W, Calls Try.prog 31 #[.int .i64 1, .int .i64 (ph : Int)] W fun e w' => e = .returned (.bool true) ∧ W = w')
    (hwk : ∀ W, Below w.heap.size w W → Calls Try.prog 113 #[.agg #[], .int .i64 v, .int .i64 src, .agg #[.int .i64 a, .int .i64 b], .int .i64 (ph : Int), .bool fr, .slice p l.length c] W fun e w' => e = .returned (.tuple #[.agg #[.int .i64 ra, .int .i64 rb], .bool rs]) ∧ Below W.heap.size W w') :
    Calls Try.prog 13 #[.int .i64 1, .int .i64 v, .int .i64 src, .agg #[.int .i64 a, .int .i64 b], .int .i64 (ph : Int), .bool fr, .slice p l.length c] w fun e w' => e = .returned (.tuple #[.agg #[.int .i64 ra, .int .i64 rb], .bool rs, .int .i64 0]) ∧ Below w.heap.size w w' := by
  have HPH := Lib.hid hph
  have HJ := Lib.hid (fun (W : World) => jobOf1_ok W)
  have HTP := Lib.hid (fun (W : World) => (show Calls Try.prog 33 #[.int .i64 1] W fun e w' => e = .returned (.int .i64 (topN 1)) ∧ W = w' from top_ok 1 W))
  have HVA := Lib.hid (fun (W : World) => (show Calls Try.prog 32 #[.int .i64 1, .agg #[.int .i64 a, .int .i64 b]] W fun e w' => e = .returned (.bool true) ∧ Below W.heap.size W w' from value_ok 1 a b W ha ha2 hb hb2))
  have HWK := Lib.hid hwk
  clear hph hwk
  have ht : 199 ≤ topN 1 := by unfold topN; split <;> omega
  obtain ⟨-, hlc, hc63⟩ := hl.lens
  have HL := Lib.hid hl
  have HM := Lib.hid hm
  clear hl hm
  obtain ⟨n, hn⟩ : ∃ n, n = l.length := ⟨_, rfl⟩
  have HN := Lib.hid hn
  rw [← hn] at hlc HWK ⊢
  clear hn
  generalize topN 1 = tp at *
  obtain ⟨b1, B1, z1⟩ := boxed0 w [.int .i64 a, .int .i64 b] 40
  obtain ⟨b2, B2, z2⟩ := boxed0 (w.alloc (.cells #[.int .i64 a, .int .i64 b] 40)) [.int .i64 0, .int .i64 0] 40
  have hbw := b1.trans (b2.mono (by omega))
  have X1 := B1.next b2
  have e1 : (w.alloc (.cells #[.int .i64 a, .int .i64 b] 40)).heap.size = w.heap.size + 1 := by simp
  rw [e1] at B2 z2
  have HBW := Lib.hid hbw
  have HX := Lib.hid X1
  have HR := Lib.hid B2
  have d1 : decide (v < 0) = false := by simp; omega
  have d2 : decide (200 ≤ v) = false := by simp; omega
  have d2' : decide (v < 200) = true := by simp; omega
  obtain ⟨hx0, hx1, hf0, hf1⟩ := X1.two
  clear b1 B1 e1 z1 B2 X1 hbw b2 z2
  have hqn : ∀ (W : World), (binOp .eql 68 (.iface 109 (.agg #[])) .nilIface).run Try.prog W = .ok (.bool false) W := fun _ => by kernel_rfl
  have hna : ∀ (fuel : Nat) (W : World), (method (fuel + 1) 109 (.agg #[]) "paceline/prog.wake").run Try.prog W = .ok (113, .agg #[]) W := fun _ _ => by kernel_rfl
  go_enter Try.func13, Try.ntmps13
  go_wp2_with fail
  generalize ((w.alloc (.cells #[.int .i64 a, .int .i64 b] 40)).alloc (.cells #[.int .i64 0, .int .i64 0] 40)) = W2 at *
  refine (HJ.out _).mono ?_; rintro e wn ⟨rfl, rfl⟩
  go_wp2_with (first
    | (go_at_call 31; refine (HPH.out _).mono ?_; rintro e wn ⟨rfl, rfl⟩))
  refine (HVA.out _).mono ?_; rintro e w3 ⟨rfl, hb3⟩
  have hx3 := HX.out.next hb3
  obtain ⟨hx0, hx1, hf0, hf1⟩ := hx3.two
  have HX3 := Lib.hid hx3
  have HR3 := Lib.hid (HR.out.next hb3)
  have HB3 := Lib.hid (below_next HBW.out (Nat.le_refl _) hb3)
  clear hb3 hx3
  go_wp2_with fail
  obtain ⟨W3, hW3⟩ : ∃ W3, W3 = w3 := ⟨_, rfl⟩
  go_loopg [19, 48] n (fun gk v19 v48 wr => ∃ (k : Nat), v48 = .int .i64 (k : Int) ∧ k + gk = n ∧ wr = W3)
  case atStart => exact ⟨0, rfl, by omega, hW3.symm⟩
  case round =>
    obtain ⟨k, rfl, hgk, hwr⟩ := hrel
    subst hW3
    subst hwr
    have HGK := Lib.hid hgk
    have hk : k ≤ n := by omega
    clear hgk
    by_cases hlt : k < n
    · have hkl : k < l.length := by have := HN.out; omega
      have hmem := HM.out _ (List.getElem_mem hkl)
      obtain ⟨bb, off, rfl, hc0⟩ := (HL.out.later HB3.out).getI hkl
      generalize l[k] = m at hc0 hmem
      obtain ⟨hm0, hm1⟩ := hmem
      have hk0 : (0 : Int) ≤ (k : Int) := by omega
      have hkn : (k : Int) < (n : Int) := by omega
      have hd1 : decide ((k : Int) < (n : Int)) = true := by simp; omega
      have hd2 : decide (k < n) = true := by simp; omega
      have hd3 : decide (m < 0) = false := by simp; omega
      have hd4 : decide (tp < m) = false := by simp; omega
      clear hlt
      go_wp2_with (go_at_call 33; refine (HTP.out _).mono ?_; rintro e wn ⟨rfl, rfl⟩)
      go_roundg (n - (k + 1))
      case measure => have := HGK.out; omega
      case rel => exact ⟨k + 1, by go_num, by omega, rfl⟩
    · have hd1 : decide ((k : Int) < (n : Int)) = false := by simp; omega
      have hd2 : decide (k < n) = false := by simp; omega
      go_wp2_with (go_at_call 113; refine (HWK.out _ HB3.out).mono ?_; rintro e w4 ⟨rfl, hb4⟩; obtain ⟨hr0, hr1, hg0, hg1⟩ := ((HR3.out.next hb4).alloc (.cells #[.int .i64 ra, .int .i64 rb] 40)).two; have HB4 := Lib.hid (below_next HB3.out (Nat.le_refl _) hb4); clear hb4)
      refine bodyPost_ret (v := .tuple #[.agg #[.int .i64 ra, .int .i64 rb], .bool rs, .int .i64 0]) ?_ rfl ⟨rfl, ?_⟩
      · rw [results_cell_tt rfl]
        go_simp
      · iterate 2 (refine Below.setCell ?_ (by simp <;> omega) _)
        exact HB4.out.trans ((alloc_below _ _).mono HB4.out.size)
set_option linter.unusedVariables false in
set_option maxHeartbeats 8000000 in
set_option maxRecDepth 100000 in
theorem wakeG_2 (p : Option Addr) (c : Nat) (v src a b ra rb : Int) (ph : Nat) (fr rs : Bool) (l : List Int) (w : World) (hl : IsI w (.slice p l.length c) l) (hv : 0 ≤ v) (hv2 : v < 200) (ha : -1 ≤ a) (ha2 : a ≤ 199) (hb : -1 ≤ b) (hb2 : b < 200) (hm : ∀ m ∈ l, 0 ≤ m ∧ m ≤ 199)
    (hph : ∀ W, Calls Try.prog 31 #[.int .i64 2, .int .i64 (ph : Int)] W fun e w' => e = .returned (.bool true) ∧ W = w')
    (hwk : ∀ W, Below w.heap.size w W → Calls Try.prog 117 #[.agg #[], .int .i64 v, .int .i64 src, .agg #[.int .i64 a, .int .i64 b], .int .i64 (ph : Int), .bool fr, .slice p l.length c] W fun e w' => e = .returned (.tuple #[.agg #[.int .i64 ra, .int .i64 rb], .bool rs]) ∧ Below W.heap.size W w') :
    Calls Try.prog 13 #[.int .i64 2, .int .i64 v, .int .i64 src, .agg #[.int .i64 a, .int .i64 b], .int .i64 (ph : Int), .bool fr, .slice p l.length c] w fun e w' => e = .returned (.tuple #[.agg #[.int .i64 ra, .int .i64 rb], .bool rs, .int .i64 0]) ∧ Below w.heap.size w w' := by
  have HPH := Lib.hid hph
  have HJ := Lib.hid (fun (W : World) => jobOf2_ok W)
  have HTP := Lib.hid (fun (W : World) => (show Calls Try.prog 33 #[.int .i64 2] W fun e w' => e = .returned (.int .i64 (topN 2)) ∧ W = w' from top_ok 2 W))
  have HVA := Lib.hid (fun (W : World) => (show Calls Try.prog 32 #[.int .i64 2, .agg #[.int .i64 a, .int .i64 b]] W fun e w' => e = .returned (.bool true) ∧ Below W.heap.size W w' from value_ok 2 a b W ha ha2 hb hb2))
  have HWK := Lib.hid hwk
  clear hph hwk
  have ht : 199 ≤ topN 2 := by unfold topN; split <;> omega
  obtain ⟨-, hlc, hc63⟩ := hl.lens
  have HL := Lib.hid hl
  have HM := Lib.hid hm
  clear hl hm
  obtain ⟨n, hn⟩ : ∃ n, n = l.length := ⟨_, rfl⟩
  have HN := Lib.hid hn
  rw [← hn] at hlc HWK ⊢
  clear hn
  generalize topN 2 = tp at *
  obtain ⟨b1, B1, z1⟩ := boxed0 w [.int .i64 a, .int .i64 b] 40
  obtain ⟨b2, B2, z2⟩ := boxed0 (w.alloc (.cells #[.int .i64 a, .int .i64 b] 40)) [.int .i64 0, .int .i64 0] 40
  have hbw := b1.trans (b2.mono (by omega))
  have X1 := B1.next b2
  have e1 : (w.alloc (.cells #[.int .i64 a, .int .i64 b] 40)).heap.size = w.heap.size + 1 := by simp
  rw [e1] at B2 z2
  have HBW := Lib.hid hbw
  have HX := Lib.hid X1
  have HR := Lib.hid B2
  have d1 : decide (v < 0) = false := by simp; omega
  have d2 : decide (200 ≤ v) = false := by simp; omega
  have d2' : decide (v < 200) = true := by simp; omega
  obtain ⟨hx0, hx1, hf0, hf1⟩ := X1.two
  clear b1 B1 e1 z1 B2 X1 hbw b2 z2
  have hqn : ∀ (W : World), (binOp .eql 68 (.iface 110 (.agg #[])) .nilIface).run Try.prog W = .ok (.bool false) W := fun _ => by kernel_rfl
  have hna : ∀ (fuel : Nat) (W : World), (method (fuel + 1) 110 (.agg #[]) "paceline/prog.wake").run Try.prog W = .ok (117, .agg #[]) W := fun _ _ => by kernel_rfl
  go_enter Try.func13, Try.ntmps13
  go_wp2_with fail
  generalize ((w.alloc (.cells #[.int .i64 a, .int .i64 b] 40)).alloc (.cells #[.int .i64 0, .int .i64 0] 40)) = W2 at *
  refine (HJ.out _).mono ?_; rintro e wn ⟨rfl, rfl⟩
  go_wp2_with (first
    | (go_at_call 31; refine (HPH.out _).mono ?_; rintro e wn ⟨rfl, rfl⟩))
  refine (HVA.out _).mono ?_; rintro e w3 ⟨rfl, hb3⟩
  have hx3 := HX.out.next hb3
  obtain ⟨hx0, hx1, hf0, hf1⟩ := hx3.two
  have HX3 := Lib.hid hx3
  have HR3 := Lib.hid (HR.out.next hb3)
  have HB3 := Lib.hid (below_next HBW.out (Nat.le_refl _) hb3)
  clear hb3 hx3
  go_wp2_with fail
  obtain ⟨W3, hW3⟩ : ∃ W3, W3 = w3 := ⟨_, rfl⟩
  go_loopg [19, 48] n (fun gk v19 v48 wr => ∃ (k : Nat), v48 = .int .i64 (k : Int) ∧ k + gk = n ∧ wr = W3)
  case atStart => exact ⟨0, rfl, by omega, hW3.symm⟩
  case round =>
    obtain ⟨k, rfl, hgk, hwr⟩ := hrel
    subst hW3
    subst hwr
    have HGK := Lib.hid hgk
    have hk : k ≤ n := by omega
    clear hgk
    by_cases hlt : k < n
    · have hkl : k < l.length := by have := HN.out; omega
      have hmem := HM.out _ (List.getElem_mem hkl)
      obtain ⟨bb, off, rfl, hc0⟩ := (HL.out.later HB3.out).getI hkl
      generalize l[k] = m at hc0 hmem
      obtain ⟨hm0, hm1⟩ := hmem
      have hk0 : (0 : Int) ≤ (k : Int) := by omega
      have hkn : (k : Int) < (n : Int) := by omega
      have hd1 : decide ((k : Int) < (n : Int)) = true := by simp; omega
      have hd2 : decide (k < n) = true := by simp; omega
      have hd3 : decide (m < 0) = false := by simp; omega
      have hd4 : decide (tp < m) = false := by simp; omega
      clear hlt
      go_wp2_with (go_at_call 33; refine (HTP.out _).mono ?_; rintro e wn ⟨rfl, rfl⟩)
      go_roundg (n - (k + 1))
      case measure => have := HGK.out; omega
      case rel => exact ⟨k + 1, by go_num, by omega, rfl⟩
    · have hd1 : decide ((k : Int) < (n : Int)) = false := by simp; omega
      have hd2 : decide (k < n) = false := by simp; omega
      go_wp2_with (go_at_call 117; refine (HWK.out _ HB3.out).mono ?_; rintro e w4 ⟨rfl, hb4⟩; obtain ⟨hr0, hr1, hg0, hg1⟩ := ((HR3.out.next hb4).alloc (.cells #[.int .i64 ra, .int .i64 rb] 40)).two; have HB4 := Lib.hid (below_next HB3.out (Nat.le_refl _) hb4); clear hb4)
      refine bodyPost_ret (v := .tuple #[.agg #[.int .i64 ra, .int .i64 rb], .bool rs, .int .i64 0]) ?_ rfl ⟨rfl, ?_⟩
      · rw [results_cell_tt rfl]
        go_simp
      · iterate 2 (refine Below.setCell ?_ (by simp <;> omega) _)
        exact HB4.out.trans ((alloc_below _ _).mono HB4.out.size)
set_option linter.unusedVariables false in
set_option maxHeartbeats 8000000 in
set_option maxRecDepth 100000 in
theorem wakeG_3 (p : Option Addr) (c : Nat) (v src a b ra rb : Int) (ph : Nat) (fr rs : Bool) (l : List Int) (w : World) (hl : IsI w (.slice p l.length c) l) (hv : 0 ≤ v) (hv2 : v < 200) (ha : -1 ≤ a) (ha2 : a ≤ 199) (hb : -1 ≤ b) (hb2 : b < 200) (hm : ∀ m ∈ l, 0 ≤ m ∧ m ≤ 199)
    (hph : ∀ W, Calls Try.prog 31 #[.int .i64 3, .int .i64 (ph : Int)] W fun e w' => e = .returned (.bool true) ∧ W = w')
    (hwk : ∀ W, Below w.heap.size w W → Calls Try.prog 119 #[.agg #[], .int .i64 v, .int .i64 src, .agg #[.int .i64 a, .int .i64 b], .int .i64 (ph : Int), .bool fr, .slice p l.length c] W fun e w' => e = .returned (.tuple #[.agg #[.int .i64 ra, .int .i64 rb], .bool rs]) ∧ Below W.heap.size W w') :
    Calls Try.prog 13 #[.int .i64 3, .int .i64 v, .int .i64 src, .agg #[.int .i64 a, .int .i64 b], .int .i64 (ph : Int), .bool fr, .slice p l.length c] w fun e w' => e = .returned (.tuple #[.agg #[.int .i64 ra, .int .i64 rb], .bool rs, .int .i64 0]) ∧ Below w.heap.size w w' := by
  have HPH := Lib.hid hph
  have HJ := Lib.hid (fun (W : World) => jobOf3_ok W)
  have HTP := Lib.hid (fun (W : World) => (show Calls Try.prog 33 #[.int .i64 3] W fun e w' => e = .returned (.int .i64 (topN 3)) ∧ W = w' from top_ok 3 W))
  have HVA := Lib.hid (fun (W : World) => (show Calls Try.prog 32 #[.int .i64 3, .agg #[.int .i64 a, .int .i64 b]] W fun e w' => e = .returned (.bool true) ∧ Below W.heap.size W w' from value_ok 3 a b W ha ha2 hb hb2))
  have HWK := Lib.hid hwk
  clear hph hwk
  have ht : 199 ≤ topN 3 := by unfold topN; split <;> omega
  obtain ⟨-, hlc, hc63⟩ := hl.lens
  have HL := Lib.hid hl
  have HM := Lib.hid hm
  clear hl hm
  obtain ⟨n, hn⟩ : ∃ n, n = l.length := ⟨_, rfl⟩
  have HN := Lib.hid hn
  rw [← hn] at hlc HWK ⊢
  clear hn
  generalize topN 3 = tp at *
  obtain ⟨b1, B1, z1⟩ := boxed0 w [.int .i64 a, .int .i64 b] 40
  obtain ⟨b2, B2, z2⟩ := boxed0 (w.alloc (.cells #[.int .i64 a, .int .i64 b] 40)) [.int .i64 0, .int .i64 0] 40
  have hbw := b1.trans (b2.mono (by omega))
  have X1 := B1.next b2
  have e1 : (w.alloc (.cells #[.int .i64 a, .int .i64 b] 40)).heap.size = w.heap.size + 1 := by simp
  rw [e1] at B2 z2
  have HBW := Lib.hid hbw
  have HX := Lib.hid X1
  have HR := Lib.hid B2
  have d1 : decide (v < 0) = false := by simp; omega
  have d2 : decide (200 ≤ v) = false := by simp; omega
  have d2' : decide (v < 200) = true := by simp; omega
  obtain ⟨hx0, hx1, hf0, hf1⟩ := X1.two
  clear b1 B1 e1 z1 B2 X1 hbw b2 z2
  have hqn : ∀ (W : World), (binOp .eql 68 (.iface 112 (.agg #[])) .nilIface).run Try.prog W = .ok (.bool false) W := fun _ => by kernel_rfl
  have hna : ∀ (fuel : Nat) (W : World), (method (fuel + 1) 112 (.agg #[]) "paceline/prog.wake").run Try.prog W = .ok (119, .agg #[]) W := fun _ _ => by kernel_rfl
  go_enter Try.func13, Try.ntmps13
  go_wp2_with fail
  generalize ((w.alloc (.cells #[.int .i64 a, .int .i64 b] 40)).alloc (.cells #[.int .i64 0, .int .i64 0] 40)) = W2 at *
  refine (HJ.out _).mono ?_; rintro e wn ⟨rfl, rfl⟩
  go_wp2_with (first
    | (go_at_call 31; refine (HPH.out _).mono ?_; rintro e wn ⟨rfl, rfl⟩))
  refine (HVA.out _).mono ?_; rintro e w3 ⟨rfl, hb3⟩
  have hx3 := HX.out.next hb3
  obtain ⟨hx0, hx1, hf0, hf1⟩ := hx3.two
  have HX3 := Lib.hid hx3
  have HR3 := Lib.hid (HR.out.next hb3)
  have HB3 := Lib.hid (below_next HBW.out (Nat.le_refl _) hb3)
  clear hb3 hx3
  go_wp2_with fail
  obtain ⟨W3, hW3⟩ : ∃ W3, W3 = w3 := ⟨_, rfl⟩
  go_loopg [19, 48] n (fun gk v19 v48 wr => ∃ (k : Nat), v48 = .int .i64 (k : Int) ∧ k + gk = n ∧ wr = W3)
  case atStart => exact ⟨0, rfl, by omega, hW3.symm⟩
  case round =>
    obtain ⟨k, rfl, hgk, hwr⟩ := hrel
    subst hW3
    subst hwr
    have HGK := Lib.hid hgk
    have hk : k ≤ n := by omega
    clear hgk
    by_cases hlt : k < n
    · have hkl : k < l.length := by have := HN.out; omega
      have hmem := HM.out _ (List.getElem_mem hkl)
      obtain ⟨bb, off, rfl, hc0⟩ := (HL.out.later HB3.out).getI hkl
      generalize l[k] = m at hc0 hmem
      obtain ⟨hm0, hm1⟩ := hmem
      have hk0 : (0 : Int) ≤ (k : Int) := by omega
      have hkn : (k : Int) < (n : Int) := by omega
      have hd1 : decide ((k : Int) < (n : Int)) = true := by simp; omega
      have hd2 : decide (k < n) = true := by simp; omega
      have hd3 : decide (m < 0) = false := by simp; omega
      have hd4 : decide (tp < m) = false := by simp; omega
      clear hlt
      go_wp2_with (go_at_call 33; refine (HTP.out _).mono ?_; rintro e wn ⟨rfl, rfl⟩)
      go_roundg (n - (k + 1))
      case measure => have := HGK.out; omega
      case rel => exact ⟨k + 1, by go_num, by omega, rfl⟩
    · have hd1 : decide ((k : Int) < (n : Int)) = false := by simp; omega
      have hd2 : decide (k < n) = false := by simp; omega
      go_wp2_with (go_at_call 119; refine (HWK.out _ HB3.out).mono ?_; rintro e w4 ⟨rfl, hb4⟩; obtain ⟨hr0, hr1, hg0, hg1⟩ := ((HR3.out.next hb4).alloc (.cells #[.int .i64 ra, .int .i64 rb] 40)).two; have HB4 := Lib.hid (below_next HB3.out (Nat.le_refl _) hb4); clear hb4)
      refine bodyPost_ret (v := .tuple #[.agg #[.int .i64 ra, .int .i64 rb], .bool rs, .int .i64 0]) ?_ rfl ⟨rfl, ?_⟩
      · rw [results_cell_tt rfl]
        go_simp
      · iterate 2 (refine Below.setCell ?_ (by simp <;> omega) _)
        exact HB4.out.trans ((alloc_below _ _).mono HB4.out.size)
set_option maxHeartbeats 4000000 in
set_option maxRecDepth 100000 in
theorem dist_fr1 (p : Option Addr) (c : Nat) (v src a b : Int) (n ph : Nat) (hs : v = src) (w : World) :
    Calls Try.prog 113 #[.agg #[], .int .i64 v, .int .i64 src, .agg #[.int .i64 a, .int .i64 b], .int .i64 (ph : Int), .bool true, .slice p n c] w fun e w' => e = .returned (.tuple #[.agg #[.int .i64 (0), .int .i64 (-1)], .bool true]) ∧ Below w.heap.size w w' := by
  subst hs
  have hve : (v == v) = true := by simp
  obtain ⟨b0, -, z0⟩ := boxed0 w [] 109
  obtain ⟨b1, B1, z1⟩ := boxed0 (w.alloc (.cells #[] 109)) [.int .i64 a, .int .i64 b] 40
  obtain ⟨b2, B2, z2⟩ := boxed0 ((w.alloc (.cells #[] 109)).alloc (.cells #[.int .i64 a, .int .i64 b] 40)) [.int .i64 0, .int .i64 0] 40
  have hbw := b0.trans ((b1.trans (b2.mono (by omega))).mono (by omega))
  have X1 := B1.next b2
  have e0 : (w.alloc (.cells #[] 109)).heap.size = w.heap.size + 1 := by simp
  have e1 : ((w.alloc (.cells #[] 109)).alloc (.cells #[.int .i64 a, .int .i64 b] 40)).heap.size = w.heap.size + 2 := by simp
  rw [e1] at B2 z2
  rw [e0] at X1
  obtain ⟨hx0, hx1, hf0, hf1⟩ := X1.two
  have HX := Lib.hid X1
  have HB2 := Lib.hid B2
  have HBW := Lib.hid hbw
  clear b0 b1 b2 B1 e1 e0 z0 z1 z2 B2 X1 hbw
  go_enter Try.func113, Try.ntmps113
  go_upto_region 1 with fail
  generalize (((w.alloc (.cells #[] 109)).alloc (.cells #[.int .i64 a, .int .i64 b] 40)).alloc (.cells #[.int .i64 0, .int .i64 0] 40)) = W2 at *
  obtain ⟨hr0, hr1, hg0, hg1⟩ := HB2.out.two
  have hz := HB2.out.lt
  have hna : ¬ W2.heap.size = w.heap.size + 2 := by omega
  have hnb : ¬ w.heap.size + 2 = W2.heap.size := by omega
  go_wp2_with fail
  refine bodyPost_ret (v := .tuple #[.agg #[.int .i64 (0), .int .i64 (-1)], .bool true]) ?_ rfl ⟨rfl, ?_⟩
  · rw [results_cell_tmp rfl]
    go_simp
  · exact Below.alloc ((HBW.out.setCell (p := ⟨w.heap.size + 2, 0, none⟩) (by show w.heap.size ≤ w.heap.size + 2; omega) _).setCell (p := ⟨w.heap.size + 2, 1, none⟩) (by show w.heap.size ≤ w.heap.size + 2; omega) _) (by simpa using HBW.out.size) _
set_option maxHeartbeats 4000000 in
set_option maxRecDepth 100000 in
theorem dist_fr0 (p : Option Addr) (c : Nat) (v src a b : Int) (n ph : Nat) (hs : ¬ v = src) (w : World) :
    Calls Try.prog 113 #[.agg #[], .int .i64 v, .int .i64 src, .agg #[.int .i64 a, .int .i64 b], .int .i64 (ph : Int), .bool true, .slice p n c] w fun e w' => e = .returned (.tuple #[.agg #[.int .i64 (-1), .int .i64 (-1)], .bool false]) ∧ Below w.heap.size w w' := by
  have hve : (v == src) = false := by simp [hs]
  obtain ⟨b0, -, z0⟩ := boxed0 w [] 109
  obtain ⟨b1, B1, z1⟩ := boxed0 (w.alloc (.cells #[] 109)) [.int .i64 a, .int .i64 b] 40
  obtain ⟨b2, B2, z2⟩ := boxed0 ((w.alloc (.cells #[] 109)).alloc (.cells #[.int .i64 a, .int .i64 b] 40)) [.int .i64 0, .int .i64 0] 40
  have hbw := b0.trans ((b1.trans (b2.mono (by omega))).mono (by omega))
  have X1 := B1.next b2
  have e0 : (w.alloc (.cells #[] 109)).heap.size = w.heap.size + 1 := by simp
  have e1 : ((w.alloc (.cells #[] 109)).alloc (.cells #[.int .i64 a, .int .i64 b] 40)).heap.size = w.heap.size + 2 := by simp
  rw [e1] at B2 z2
  rw [e0] at X1
  obtain ⟨hx0, hx1, hf0, hf1⟩ := X1.two
  have HX := Lib.hid X1
  have HB2 := Lib.hid B2
  have HBW := Lib.hid hbw
  clear b0 b1 b2 B1 e1 e0 z0 z1 z2 B2 X1 hbw
  go_enter Try.func113, Try.ntmps113
  go_upto_region 1 with fail
  generalize (((w.alloc (.cells #[] 109)).alloc (.cells #[.int .i64 a, .int .i64 b] 40)).alloc (.cells #[.int .i64 0, .int .i64 0] 40)) = W2 at *
  obtain ⟨hr0, hr1, hg0, hg1⟩ := HB2.out.two
  have hz := HB2.out.lt
  have hna : ¬ W2.heap.size = w.heap.size + 2 := by omega
  have hnb : ¬ w.heap.size + 2 = W2.heap.size := by omega
  go_wp2_with fail
  refine bodyPost_ret (v := .tuple #[.agg #[.int .i64 (-1), .int .i64 (-1)], .bool false]) ?_ rfl ⟨rfl, ?_⟩
  · rw [results_cell_tmp rfl]
    go_simp
  · exact Below.alloc ((HBW.out.setCell (p := ⟨w.heap.size + 2, 0, none⟩) (by show w.heap.size ≤ w.heap.size + 2; omega) _).setCell (p := ⟨w.heap.size + 2, 1, none⟩) (by show w.heap.size ≤ w.heap.size + 2; omega) _) (by simpa using HBW.out.size) _
set_option maxHeartbeats 4000000 in
set_option maxRecDepth 100000 in
theorem weak_fr (p : Option Addr) (c : Nat) (v src a b : Int) (n ph : Nat) (w : World) :
    Calls Try.prog 117 #[.agg #[], .int .i64 v, .int .i64 src, .agg #[.int .i64 a, .int .i64 b], .int .i64 (ph : Int), .bool true, .slice p n c] w fun e w' => e = .returned (.tuple #[.agg #[.int .i64 (v), .int .i64 (-1)], .bool true]) ∧ Below w.heap.size w w' := by
  obtain ⟨b0, -, z0⟩ := boxed0 w [] 110
  obtain ⟨b1, B1, z1⟩ := boxed0 (w.alloc (.cells #[] 110)) [.int .i64 a, .int .i64 b] 40
  obtain ⟨b2, B2, z2⟩ := boxed0 ((w.alloc (.cells #[] 110)).alloc (.cells #[.int .i64 a, .int .i64 b] 40)) [.int .i64 0, .int .i64 0] 40
  have hbw := b0.trans ((b1.trans (b2.mono (by omega))).mono (by omega))
  have X1 := B1.next b2
  have e0 : (w.alloc (.cells #[] 110)).heap.size = w.heap.size + 1 := by simp
  have e1 : ((w.alloc (.cells #[] 110)).alloc (.cells #[.int .i64 a, .int .i64 b] 40)).heap.size = w.heap.size + 2 := by simp
  rw [e1] at B2 z2
  rw [e0] at X1
  obtain ⟨hx0, hx1, hf0, hf1⟩ := X1.two
  have HX := Lib.hid X1
  have HB2 := Lib.hid B2
  have HBW := Lib.hid hbw
  clear b0 b1 b2 B1 e1 e0 z0 z1 z2 B2 X1 hbw
  go_enter Try.func117, Try.ntmps117
  go_upto_region 1 with fail
  generalize (((w.alloc (.cells #[] 110)).alloc (.cells #[.int .i64 a, .int .i64 b] 40)).alloc (.cells #[.int .i64 0, .int .i64 0] 40)) = W2 at *
  obtain ⟨hr0, hr1, hg0, hg1⟩ := HB2.out.two
  have hz := HB2.out.lt
  go_wp2_with fail
  refine bodyPost_ret (v := .tuple #[.agg #[.int .i64 (v), .int .i64 (-1)], .bool true]) ?_ rfl ⟨rfl, ?_⟩
  · rw [results_cell_tmp rfl]
    go_simp
  · exact (HBW.out.setCell (p := ⟨w.heap.size + 2, 0, none⟩) (by show w.heap.size ≤ w.heap.size + 2; omega) _).setCell (p := ⟨w.heap.size + 2, 1, none⟩) (by show w.heap.size ≤ w.heap.size + 2; omega) _
set_option maxHeartbeats 4000000 in
set_option maxRecDepth 100000 in
theorem strong_f0 (p : Option Addr) (c : Nat) (v src a : Int) (n : Nat) (w : World) :
    Calls Try.prog 119 #[.agg #[], .int .i64 v, .int .i64 src, .agg #[.int .i64 a, .int .i64 (-1)], .int .i64 0, .bool true, .slice p n c] w fun e w' => e = .returned (.tuple #[.agg #[.int .i64 (v), .int .i64 (-1)], .bool true]) ∧ Below w.heap.size w w' := by
  obtain ⟨b0, -, z0⟩ := boxed0 w [] 112
  obtain ⟨b1, B1, z1⟩ := boxed0 (w.alloc (.cells #[] 112)) [.int .i64 a, .int .i64 (-1)] 40
  obtain ⟨b2, B2, z2⟩ := boxed0 ((w.alloc (.cells #[] 112)).alloc (.cells #[.int .i64 a, .int .i64 (-1)] 40)) [.int .i64 0, .int .i64 0] 40
  have hbw := b0.trans ((b1.trans (b2.mono (by omega))).mono (by omega))
  have X1 := B1.next b2
  have e0 : (w.alloc (.cells #[] 112)).heap.size = w.heap.size + 1 := by simp
  have e1 : ((w.alloc (.cells #[] 112)).alloc (.cells #[.int .i64 a, .int .i64 (-1)] 40)).heap.size = w.heap.size + 2 := by simp
  rw [e1] at B2 z2
  rw [e0] at X1
  obtain ⟨hx0, hx1, hf0, hf1⟩ := X1.two
  have HX := Lib.hid X1
  have HB2 := Lib.hid B2
  have HBW := Lib.hid hbw
  clear b0 b1 b2 B1 e1 e0 z0 z1 z2 B2 X1 hbw
  go_enter Try.func119, Try.ntmps119
  go_upto_region 1 with fail
  generalize (((w.alloc (.cells #[] 112)).alloc (.cells #[.int .i64 a, .int .i64 (-1)] 40)).alloc (.cells #[.int .i64 0, .int .i64 0] 40)) = W2 at *
  obtain ⟨hr0, hr1, hg0, hg1⟩ := HB2.out.two
  have hz := HB2.out.lt
  go_wp2_with fail
  refine bodyPost_ret (v := .tuple #[.agg #[.int .i64 (v), .int .i64 (-1)], .bool true]) ?_ rfl ⟨rfl, ?_⟩
  · rw [results_cell_tmp rfl]
    go_simp
  · exact (HBW.out.setCell (p := ⟨w.heap.size + 2, 0, none⟩) (by show w.heap.size ≤ w.heap.size + 2; omega) _).setCell (p := ⟨w.heap.size + 2, 1, none⟩) (by show w.heap.size ≤ w.heap.size + 2; omega) _
set_option maxHeartbeats 4000000 in
set_option maxRecDepth 100000 in
theorem strong_l0 (p : Option Addr) (c : Nat) (v src a : Int) (l : List Int) (w : World) (hl : IsI w (.slice p l.length c) l) :
    Calls Try.prog 119 #[.agg #[], .int .i64 v, .int .i64 src, .agg #[.int .i64 a, .int .i64 (-1)], .int .i64 0, .bool false, .slice p l.length c] w fun e w' => e = .returned (.tuple #[.agg #[.int .i64 (lwA a l), .int .i64 (-1)], .bool (lwS a false l)]) ∧ Below w.heap.size w w' := by
  have HLO := Lib.hid (fun (W : World) (hW : Below w.heap.size w W) => lower_ok p c a (-1) l W (hl.later hW))
  clear hl
  obtain ⟨b0, -, z0⟩ := boxed0 w [] 112
  obtain ⟨b1, B1, z1⟩ := boxed0 (w.alloc (.cells #[] 112)) [.int .i64 a, .int .i64 (-1)] 40
  obtain ⟨b2, B2, z2⟩ := boxed0 ((w.alloc (.cells #[] 112)).alloc (.cells #[.int .i64 a, .int .i64 (-1)] 40)) [.int .i64 0, .int .i64 0] 40
  have hbw := b0.trans ((b1.trans (b2.mono (by omega))).mono (by omega))
  have X1 := B1.next b2
  have e0 : (w.alloc (.cells #[] 112)).heap.size = w.heap.size + 1 := by simp
  have e1 : ((w.alloc (.cells #[] 112)).alloc (.cells #[.int .i64 a, .int .i64 (-1)] 40)).heap.size = w.heap.size + 2 := by simp
  rw [e1] at B2 z2
  rw [e0] at X1
  obtain ⟨hx0, hx1, hf0, hf1⟩ := X1.two
  have HX := Lib.hid X1
  have HB2 := Lib.hid B2
  have HBW := Lib.hid hbw
  clear b0 b1 b2 B1 e1 e0 z0 z1 z2 B2 X1 hbw
  go_enter Try.func119, Try.ntmps119
  go_upto_region 1 with fail
  generalize (((w.alloc (.cells #[] 112)).alloc (.cells #[.int .i64 a, .int .i64 (-1)] 40)).alloc (.cells #[.int .i64 0, .int .i64 0] 40)) = W2 at *
  go_wp2_with (go_at_call 115; refine (HLO.out _ HBW.out).mono ?_; rintro e w3 ⟨rfl, hb3⟩; have Z3 := HB2.out.next hb3; have HW3 := Lib.hid (below_next HBW.out (Nat.le_refl _) hb3); obtain ⟨hg0, hg1, hgf0, hgf1⟩ := Z3.two; clear Z3 hb3)
  refine bodyPost_ret (v := .tuple #[.agg #[.int .i64 (lwA a l), .int .i64 (-1)], .bool (lwS a false l)]) ?_ rfl ⟨rfl, ?_⟩
  · rw [results_cell_tmp rfl]
    go_simp
  · exact (HW3.out.setCell (p := ⟨w.heap.size + 2, 0, none⟩) (by show w.heap.size ≤ w.heap.size + 2; omega) _).setCell (p := ⟨w.heap.size + 2, 1, none⟩) (by show w.heap.size ≤ w.heap.size + 2; omega) _
/-- prog.Wake, whatever wakes -/
theorem wake_ok (k ph : Nat) (fr : Bool) (hk : 1 ≤ k ∧ k ≤ 3) (hp : ph = 0 ∨ (k = 3 ∧ ph = 1)) (p : Option Addr) (c : Nat) (v src : Int) (x : Int × Int) (l : List Int) (w : World) (hl : IsI w (.slice p l.length c) l) (hv : 0 ≤ v) (hv2 : v < 200) (ha : -1 ≤ x.1) (ha2 : x.1 ≤ 199) (hb : -1 ≤ x.2) (hb2 : x.2 < 200) (hm : ∀ m ∈ l, 0 ≤ m ∧ m ≤ 199) :
    Calls Try.prog 13 #[.int .i64 (k : Int), .int .i64 v, .int .i64 src, .agg #[.int .i64 x.1, .int .i64 x.2], .int .i64 (ph : Int), .bool fr, .slice p l.length c] w fun e w' => e = .returned (.tuple #[.agg #[.int .i64 (wkF k v src x ph fr l).1.1, .int .i64 (wkF k v src x ph fr l).1.2], .bool (wkF k v src x ph fr l).2, .int .i64 0]) ∧ Below w.heap.size w w' := by
  obtain ⟨a, b⟩ := x
  dsimp only at *
  have ph0 : ∀ (k : Nat) (W : World), Calls Try.prog 31 #[.int .i64 (k : Int), .int .i64 ((0 : Nat) : Int)] W fun e w' => e = .returned (.bool true) ∧ W = w' := fun k W => phases0_ok k W
  obtain rfl | rfl | rfl : k = 1 ∨ k = 2 ∨ k = 3 := by omega
  · obtain rfl : ph = 0 := by omega
    refine wakeG_1 p c v src a b _ _ 0 fr _ l w hl hv hv2 ha ha2 hb hb2 hm (ph0 1) (fun W hW => ?_)
    cases fr with
    | false => exact dist_wake p c v src a b 0 l W (hl.later hW)
    | true =>
      by_cases hs : v = src
      · have := dist_fr1 p c v src a b l.length 0 hs W
        simpa [wkF, hs] using this
      · have := dist_fr0 p c v src a b l.length 0 hs W
        simpa [wkF, hs] using this
  · obtain rfl : ph = 0 := by omega
    refine wakeG_2 p c v src a b _ _ 0 fr _ l w hl hv hv2 ha ha2 hb hb2 hm (ph0 2) (fun W hW => ?_)
    cases fr with
    | false => exact weak_wake p c v src a b 0 l W (hl.later hW)
    | true => exact weak_fr p c v src a b l.length 0 W
  · rcases hp with rfl | ⟨-, rfl⟩
    · refine wakeG_3 p c v src a b _ _ 0 fr _ l w hl hv hv2 ha ha2 hb hb2 hm (ph0 3) (fun W hW => ?_)
      by_cases hbb : b = -1
      · subst hbb
        cases fr with
        | false =>
          have := strong_l0 p c v src a l W (hl.later hW)
          simpa [wkF] using this
        | true =>
          have := strong_f0 p c v src a l.length W
          simpa [wkF] using this
      · have := strong_lab p l.length c v src a b 0 fr W hbb
        simpa [wkF, hbb] using this
    · refine wakeG_3 p c v src a b _ _ 1 fr _ l w hl hv hv2 ha ha2 hb hb2 hm (fun W => phases1_ok W) (fun W hW => ?_)
      by_cases hbb : b = -1
      · subst hbb
        cases fr with
        | false =>
          have := strong_mail p c v src a l W (hl.later hW)
          by_cases h : a ∈ l <;> simpa [wkF, bkB, h] using this
        | true =>
          have := strong_fresh p l.length c v src a W
          by_cases h : a = v <;> simpa [wkF, bkB, h] using this
      · have := strong_lab p l.length c v src a b 1 fr W hbb
        simpa [wkF, hbb] using this
end Go.Proofs.Ytiaflhlfodcbjaa
