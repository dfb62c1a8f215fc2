/- The walks of prog.Wake. -/
import Derived.Test.YtiaflhlfodcbjaaBoxed
import Derived.Deep.RegionHeld3
import Derived.Deep.DeepCutAuto
import Derived.IntWalk
import Derived.Test.YtiaflhlfodcbjaaStrongW
namespace Go.Proofs.Ytiaflhlfodcbjaa
open Go.RowKit
def topN (k : Nat) : Int := if k = 1 then 4398046511104 else 199
set_option maxHeartbeats 400000 in
set_option maxRecDepth 100000 in
theorem top_ok (k : Nat) (w : World) : Calls Try.prog 33 #[.int .i64 (k : Int)] w fun e w' => e = .returned (.int .i64 (topN k)) ∧ w = w' := by
  unfold topN
  by_cases h : k = 1
  · subst h
    go_enter Try.func33, Try.ntmps33
    go_wp2
    go_ret
    exact ⟨rfl, rfl⟩
  · have he : ((k : Int) == 1) = false := by simp; omega
    rw [if_neg h]
    go_enter Try.func33, Try.ntmps33
    go_wp2
    go_ret
    exact ⟨rfl, rfl⟩
set_option maxHeartbeats 400000 in
set_option maxRecDepth 100000 in
theorem phases0_ok (k : Nat) (w : World) : Calls Try.prog 31 #[.int .i64 (k : Int), .int .i64 0] w fun e w' => e = .returned (.bool true) ∧ w = w' := by
  go_enter Try.func31, Try.ntmps31
  go_wp2
  go_ret
  exact ⟨rfl, rfl⟩
set_option maxHeartbeats 400000 in
set_option maxRecDepth 100000 in
theorem phases1_ok (w : World) : Calls Try.prog 31 #[.int .i64 3, .int .i64 1] w fun e w' => e = .returned (.bool true) ∧ w = w' := by
  go_enter Try.func31, Try.ntmps31
  go_wp2
  go_ret
  exact ⟨rfl, rfl⟩
set_option maxHeartbeats 2000000 in
set_option maxRecDepth 100000 in
theorem value_ok (k : Nat) (a b : Int) (w : World) (ha : -1 ≤ a) (ha2 : a ≤ 199) (hb : -1 ≤ b) (hb2 : b < 200) :
    Calls Try.prog 32 #[.int .i64 (k : Int), .agg #[.int .i64 a, .int .i64 b]] w fun e w' => e = .returned (.bool true) ∧ Below w.heap.size w w' := by
  obtain ⟨b1, B1, z1⟩ := boxed0 w [.int .i64 a, .int .i64 b] 40
  have HTP := Lib.hid (fun W => top_ok k W)
  have ht : 199 ≤ topN k := by unfold topN; split <;> omega
  generalize topN k = t at *
  obtain ⟨hx0, hx1, hf0, hf1⟩ := B1.two
  have HB := Lib.hid b1
  have HX := Lib.hid B1
  have d1 : decide (a < -1) = false := by simp; omega
  have d2 : decide (t < a) = false := by simp; omega
  have d3 : decide (b < -1) = false := by simp; omega
  have d4 : decide (b < 200) = true := by simp; omega
  have d5 : a ≤ t := by omega
  clear b1 B1 z1
  go_enter Try.func32, Try.ntmps32
  go_upto_region 1 with fail
  generalize (w.alloc (.cells #[.int .i64 a, .int .i64 b] 40)) = W at *
  go_region_held3 (fun w' => w'.cell? ⟨w.heap.size, 0, none⟩ = some (Value.int .i64 a) ∧ w'.cell? ⟨w.heap.size, 1, none⟩ = some (Value.int .i64 b)) (first | (exact ⟨hx0, hx1⟩) | go_keep)
    (first
      | (go_at_call 33; refine (HTP.out _).mono ?_; rintro e wn ⟨rfl, rfl⟩))
  go_wp2_with fail
  go_ret
  exact ⟨rfl, HB.out.drew⟩
set_option maxHeartbeats 400000 in
set_option maxRecDepth 100000 in
theorem jobOf1_ok (w : World) : Calls Try.prog 30 #[.int .i64 1] w fun e w' => e = .returned (.iface 109 (.agg #[])) ∧ w = w' := by
  go_enter Try.func30, Try.ntmps30
  go_wp2
  go_ret
  exact ⟨rfl, rfl⟩
set_option maxHeartbeats 400000 in
set_option maxRecDepth 100000 in
theorem jobOf2_ok (w : World) : Calls Try.prog 30 #[.int .i64 2] w fun e w' => e = .returned (.iface 110 (.agg #[])) ∧ w = w' := by
  go_enter Try.func30, Try.ntmps30
  go_wp2
  go_ret
  exact ⟨rfl, rfl⟩
set_option maxHeartbeats 400000 in
set_option maxRecDepth 100000 in
theorem jobOf3_ok (w : World) : Calls Try.prog 30 #[.int .i64 3] w fun e w' => e = .returned (.iface 112 (.agg #[])) ∧ w = w' := by
  go_enter Try.func30, Try.ntmps30
  go_wp2
  go_ret
  exact ⟨rfl, rfl⟩
end Go.Proofs.Ytiaflhlfodcbjaa
namespace Go.Proofs.Ytiaflhlfodcbjaa
open Go.RowKit
theorem results_cell_tt {fn : Func} {p u v : Tmp} {ty : TypeId} (h : fn.results = #[.cell p ty, .tmp u, .tmp v]) (tmps : Array Value) (P : Program) (w : World) :
    (results fn tmps).run P w = ((asAddr (tmps.getD p undef)).run P w).andThen fun a w₁ => ((loadVar ty a).run P w₁).andThen fun x w₂ => .ok (.tuple #[x, tmps.getD u undef, tmps.getD v undef]) w₂ := by
  simp only [results, h]
  simp [Sem.run_bind, Result.andThen]
set_option linter.unusedVariables false in
set_option maxHeartbeats 8000000 in
set_option maxRecDepth 100000 in
theorem wake_dist (p : Option Addr) (c : Nat) (v src a b : Int) (l : List Int) (w : World) (hl : IsI w (.slice p l.length c) l) (hv : 0 ≤ v) (hv2 : v < 200) (ha : -1 ≤ a) (ha2 : a ≤ 199) (hb : -1 ≤ b) (hb2 : b < 200) (hm : ∀ m ∈ l, 0 ≤ m ∧ m ≤ 199) :
    Calls Try.prog 13 #[.int .i64 1, .int .i64 v, .int .i64 src, .agg #[.int .i64 a, .int .i64 b], .int .i64 0, .bool false, .slice p l.length c] w fun e w' => e = .returned (.tuple #[.agg #[.int .i64 (lwA a l), .int .i64 (b)], .bool (lwS a false l), .int .i64 0]) ∧ Below w.heap.size w w' := by
  have HPH := Lib.hid (fun (W : World) => (show Calls Try.prog 31 #[.int .i64 1, .int .i64 0] W fun e w' => e = .returned (.bool true) ∧ W = w' from phases0_ok 1 W))
  have HJ := Lib.hid (fun (W : World) => jobOf1_ok W)
  have HTP := Lib.hid (fun (W : World) => (show Calls Try.prog 33 #[.int .i64 1] W fun e w' => e = .returned (.int .i64 (topN 1)) ∧ W = w' from top_ok 1 W))
  have HVA := Lib.hid (fun (W : World) => (show Calls Try.prog 32 #[.int .i64 1, .agg #[.int .i64 a, .int .i64 b]] W fun e w' => e = .returned (.bool true) ∧ Below W.heap.size W w' from value_ok 1 a b W ha ha2 hb hb2))
  have HWK := Lib.hid (fun (W : World) (hW : Below w.heap.size w W) => (show Calls Try.prog 113 #[.agg #[], .int .i64 v, .int .i64 src, .agg #[.int .i64 a, .int .i64 b], .int .i64 0, .bool false, .slice p l.length c] W fun e w' => e = .returned (.tuple #[.agg #[.int .i64 (lwA a l), .int .i64 (b)], .bool (lwS a false l)]) ∧ Below W.heap.size W w' from dist_wake p c v src a b 0 l W (hl.later hW)))
  have ht : 199 ≤ topN 1 := by unfold topN; split <;> omega
  obtain ⟨-, hlc, hc63⟩ := hl.lens
  have HL := Lib.hid hl
  have HM := Lib.hid hm
  clear hl hm
  obtain ⟨n, hn⟩ : ∃ n, n = l.length := ⟨_, rfl⟩
  have HN := Lib.hid hn
  rw [← hn] at hlc HWK ⊢
  clear hn
  generalize lwA a l = ra at *
  generalize lwS a false l = rs at *
  generalize topN 1 = tp at *
  obtain ⟨b1, B1, z1⟩ := boxed0 w [.int .i64 a, .int .i64 b] 40
  obtain ⟨b2, B2, z2⟩ := boxed0 (w.alloc (.cells #[.int .i64 a, .int .i64 b] 40)) [.int .i64 0, .int .i64 0] 40
  have hbw := b1.trans (b2.mono (by omega))
  have X1 := B1.next b2
  have e1 : (w.alloc (.cells #[.int .i64 a, .int .i64 b] 40)).heap.size = w.heap.size + 1 := by simp
  rw [e1] at B2 z2
  have HBW := Lib.hid hbw
  have HX := Lib.hid X1
  have HR := Lib.hid B2
  have d1 : decide (v < 0) = false := by simp; omega
  have d2 : decide (200 ≤ v) = false := by simp; omega
  have d2' : decide (v < 200) = true := by simp; omega
  obtain ⟨hx0, hx1, hf0, hf1⟩ := X1.two
  clear b1 B1 e1 z1 B2 X1 hbw b2 z2
  have hqn : ∀ (W : World), (binOp .eql 68 (.iface 109 (.agg #[])) .nilIface).run Try.prog W = .ok (.bool false) W := fun _ => by kernel_rfl
  have hna : ∀ (fuel : Nat) (W : World), (method (fuel + 1) 109 (.agg #[]) "paceline/prog.wake").run Try.prog W = .ok (113, .agg #[]) W := fun _ _ => by kernel_rfl
  go_enter Try.func13, Try.ntmps13
  go_wp2_with fail
  generalize ((w.alloc (.cells #[.int .i64 a, .int .i64 b] 40)).alloc (.cells #[.int .i64 0, .int .i64 0] 40)) = W2 at *
  refine (HJ.out _).mono ?_; rintro e wn ⟨rfl, rfl⟩
  go_wp2_with (first
    | (go_at_call 31; refine (HPH.out _).mono ?_; rintro e wn ⟨rfl, rfl⟩))
  refine (HVA.out _).mono ?_; rintro e w3 ⟨rfl, hb3⟩
  have hx3 := HX.out.next hb3
  obtain ⟨hx0, hx1, hf0, hf1⟩ := hx3.two
  have HX3 := Lib.hid hx3
  have HR3 := Lib.hid (HR.out.next hb3)
  have HB3 := Lib.hid (below_next HBW.out (Nat.le_refl _) hb3)
  clear hb3 hx3
  go_wp2_with fail
  obtain ⟨W3, hW3⟩ : ∃ W3, W3 = w3 := ⟨_, rfl⟩
  go_loopg [19, 48] n (fun gk v19 v48 wr => ∃ (k : Nat), v48 = .int .i64 (k : Int) ∧ k + gk = n ∧ wr = W3)
  case atStart => exact ⟨0, rfl, by omega, hW3.symm⟩
  case round =>
    obtain ⟨k, rfl, hgk, hwr⟩ := hrel
    subst hW3
    subst hwr
    have HGK := Lib.hid hgk
    have hk : k ≤ n := by omega
    clear hgk
    by_cases hlt : k < n
    · have hkl : k < l.length := by have := HN.out; omega
      have hmem := HM.out _ (List.getElem_mem hkl)
      obtain ⟨bb, off, rfl, hc0⟩ := (HL.out.later HB3.out).getI hkl
      generalize l[k] = m at hc0 hmem
      obtain ⟨hm0, hm1⟩ := hmem
      have hk0 : (0 : Int) ≤ (k : Int) := by omega
      have hkn : (k : Int) < (n : Int) := by omega
      have hd1 : decide ((k : Int) < (n : Int)) = true := by simp; omega
      have hd2 : decide (k < n) = true := by simp; omega
      have hd3 : decide (m < 0) = false := by simp; omega
      have hd4 : decide (tp < m) = false := by simp; omega
      clear hlt
      go_wp2_with (go_at_call 33; refine (HTP.out _).mono ?_; rintro e wn ⟨rfl, rfl⟩)
      go_roundg (n - (k + 1))
      case measure => have := HGK.out; omega
      case rel => exact ⟨k + 1, by go_num, by omega, rfl⟩
    · have hd1 : decide ((k : Int) < (n : Int)) = false := by simp; omega
      have hd2 : decide (k < n) = false := by simp; omega
      go_wp2_with (go_at_call 113; refine (HWK.out _ HB3.out).mono ?_; rintro e w4 ⟨rfl, hb4⟩; obtain ⟨hr0, hr1, hg0, hg1⟩ := ((HR3.out.next hb4).alloc (.cells #[.int .i64 ra, .int .i64 b] 40)).two; have HB4 := Lib.hid (below_next HB3.out (Nat.le_refl _) hb4); clear hb4)
      refine bodyPost_ret (v := .tuple #[.agg #[.int .i64 ra, .int .i64 b], .bool rs, .int .i64 0]) ?_ rfl ⟨rfl, ?_⟩
      · rw [results_cell_tt rfl]
        go_simp
      · iterate 2 (refine Below.setCell ?_ (by simp <;> omega) _)
        exact HB4.out.trans ((alloc_below _ _).mono HB4.out.size)
end Go.Proofs.Ytiaflhlfodcbjaa
