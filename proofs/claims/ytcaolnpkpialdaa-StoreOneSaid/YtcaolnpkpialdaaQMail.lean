/- The walks of queue.mail, of slices.ContainsFunc and slices.Equal at mail. -/
import Derived.Test.YtcaolnpkpialdaaMailU
import Derived.Test.YtcaolnpkpialdaaBoxed
import Derived.Test.YtcaolnpkpialdaaPQueue
import Derived.Deep.LoopGhost
import Derived.Deep.QuietTactic
import Derived.BigQuiet
namespace Go.Proofs.Ytcaolnpkpialdaa
open Go.RowKit
set_option maxHeartbeats 1000000 in
set_option maxRecDepth 100000 in
theorem qmail_ok (x1 x2 : Nat) (W : World) (h : okM (x1, x2)) :
    Calls Try.prog 81 #[.agg #[.int .i64 (x1 : Int), .int .i64 (x2 : Int)]] W fun e w' => e = .returned (.bool true) ∧ Below W.heap.size W w' := by
  obtain ⟨h1, h2⟩ := h
  dsimp only at h1 h2
  obtain ⟨b1, B1, z1⟩ := boxed0 W [.int .i64 (x1 : Int), .int .i64 (x2 : Int)] 109
  obtain ⟨hx0, hx1, _, _⟩ := B1.two
  have d1 : decide ((x1 : Int) < 200) = true := decide_eq_true (by omega)
  have d1' : decide (x1 < 200) = true := decide_eq_true (by omega)
  have d2 : decide ((x2 : Int) ≤ 4398046511104) = true := decide_eq_true (by omega)
  have d2' : decide (x2 ≤ 4398046511104) = true := decide_eq_true (by omega)
  clear B1 z1
  go_enter Try.func81, Try.ntmps81
  go_wp2_with fail
  go_ret
  exact ⟨rfl, b1⟩
set_option maxHeartbeats 1000000 in
set_option maxRecDepth 100000 in
theorem qclo_ok (x1 x2 : Nat) (W : World) (h : okM (x1, x2)) :
    Calls Try.prog 85 #[.agg #[.int .i64 (x1 : Int), .int .i64 (x2 : Int)]] W fun e w' => e = .returned (.bool false) ∧ Below W.heap.size W w' := by
  have HQ := Lib.hid (fun W => qmail_ok x1 x2 W h)
  obtain ⟨b1, B1, z1⟩ := boxed0 W [.int .i64 (x1 : Int), .int .i64 (x2 : Int)] 109
  obtain ⟨hx0, hx1, _, _⟩ := B1.two
  clear B1 z1 h
  go_enter Try.func85, Try.ntmps85
  go_wp2_with fail
  refine (HQ.out _).mono ?_; rintro e w2 ⟨rfl, hb2⟩
  go_wp2_with fail
  go_ret
  exact ⟨rfl, b1.trans (hb2.mono b1.size)⟩
set_option maxHeartbeats 4000000 in
set_option maxRecDepth 100000 in
theorem qindex_ok (n c : Nat) (p : Option Addr) (l : List (Nat × Nat)) (w : World) (h : Sl w 2 (.slice p n c) n (mcs l)) (ho : ∀ m ∈ l, okM m) :
    Calls Try.prog 93 #[.slice p n c, .func (.func 85) #[] #[]] w fun e w' => e = .returned (.int .i64 (-1)) ∧ Below w.heap.size w w' := by
  obtain ⟨hln, hnc, hc63⟩ := h.mlen
  have HLN := Lib.hid hln
  have HL := Lib.hid h
  have HO := Lib.hid ho
  clear h ho hln
  go_enter Try.func93, Try.ntmps93
  go_wp2_with fail
  go_loopg [5, 8] n (fun gk v5 v8 wr => ∃ k : Nat, v8 = .int .i64 (k : Int) ∧ k + gk = n ∧ Below w.heap.size w wr)
  case atStart => exact ⟨0, rfl, by omega, Below.refl _ _⟩
  case round =>
    obtain ⟨k, rfl, hgk, hb⟩ := hrel
    have HGK := Lib.hid hgk
    have hk : k ≤ n := by omega
    clear hgk
    by_cases hlt : k < n
    · have hkl : k < l.length := by have := HLN.out; omega
      obtain ⟨b2, off2, rfl, hs0, hs1⟩ := (HL.out.later hb).mail hkl
      have hok := HO.out _ (List.getElem_mem hkl)
      generalize l[k] = x at hok hs0 hs1
      obtain ⟨x1, x2⟩ := x
      dsimp only at hok hs0 hs1
      have HQ := Lib.hid (fun W => qclo_ok x1 x2 W hok)
      have hk0 : (0 : Int) ≤ (k : Int) := by omega
      have hkn : (k : Int) < (n : Int) := by omega
      have hd1 : decide ((k : Int) < (n : Int)) = true := by simp; omega
      have hd2 : decide (k < n) = true := by simp; omega
      clear hok hlt
      go_wp2_with fail
      refine (HQ.out _).mono ?_; rintro e w2 ⟨rfl, hb2⟩
      go_wp2_with fail
      go_roundg (n - (k + 1))
      case measure => have := HGK.out; omega
      case rel => exact ⟨k + 1, by go_num, by omega, hb.trans (hb2.mono hb.size)⟩
    · have hd1 : decide ((k : Int) < (n : Int)) = false := by simp; omega
      have hd2 : decide (k < n) = false := by simp; omega
      go_wp2_with fail
      go_ret
      exact ⟨rfl, hb⟩
set_option maxHeartbeats 1000000 in
set_option maxRecDepth 100000 in
theorem qcontains_ok (n c : Nat) (p : Option Addr) (l : List (Nat × Nat)) (w : World) (h : Sl w 2 (.slice p n c) n (mcs l)) (ho : ∀ m ∈ l, okM m) :
    Calls Try.prog 84 #[.slice p n c, .func (.func 85) #[] #[]] w fun e w' => e = .returned (.bool false) ∧ Below w.heap.size w w' := by
  have HI := Lib.hid (qindex_ok n c p l w h ho)
  clear h ho
  go_enter Try.func84, Try.ntmps84
  go_wp2_with fail
  refine HI.out.mono ?_; rintro e w2 ⟨rfl, hb2⟩
  go_wp2_with fail
  go_ret
  exact ⟨rfl, hb2⟩
set_option maxHeartbeats 4000000 in
set_option maxRecDepth 100000 in
theorem qequal_ok (n c d : Nat) (p q : Option Addr) (l : List (Nat × Nat)) (w : World) (h : Sl w 2 (.slice p n c) n (mcs l)) (h2 : Sl w 2 (.slice q n d) n (mcs l)) :
    Calls Try.prog 75 #[.slice p n c, .slice q n d] w fun e w' => e = .returned (.bool true) ∧ Below w.heap.size w w' := by
  obtain ⟨hln, hnc, hc63⟩ := h.mlen
  obtain ⟨-, hnd, hd63⟩ := h2.mlen
  have HLN := Lib.hid hln
  have HL := Lib.hid h
  have HL2 := Lib.hid h2
  clear h h2 hln
  go_enter Try.func75, Try.ntmps75
  go_wp2_with fail
  go_loopg [5, 13] n (fun gk v5 v13 wr => ∃ k : Nat, v13 = .int .i64 (k : Int) ∧ k + gk = n ∧ Below w.heap.size w wr)
  case atStart => exact ⟨0, rfl, by omega, Below.refl _ _⟩
  case round =>
    obtain ⟨k, rfl, hgk, hb⟩ := hrel
    have HGK := Lib.hid hgk
    have hk : k ≤ n := by omega
    clear hgk
    by_cases hlt : k < n
    · have hkl : k < l.length := by have := HLN.out; omega
      obtain ⟨b2, off2, rfl, hs0, hs1⟩ := (HL.out.later hb).mail hkl
      obtain ⟨b3, off3, rfl, ht0, ht1⟩ := (HL2.out.later hb).mail hkl
      generalize l[k] = x at hs0 hs1 ht0 ht1
      obtain ⟨x1, x2⟩ := x
      dsimp only at hs0 hs1 ht0 ht1
      have hk0 : (0 : Int) ≤ (k : Int) := by omega
      have hkn : (k : Int) < (n : Int) := by omega
      have hd1 : decide ((k : Int) < (n : Int)) = true := by simp; omega
      have hd2 : decide (k < n) = true := by simp; omega
      clear hlt
      go_wp2_with fail
      go_quiet (fail)
      go_wp2_with fail
      go_roundg (n - (k + 1))
      case measure => have := HGK.out; omega
      case rel => exact ⟨k + 1, by go_num, by omega, below_drewN hb _⟩
    · have hd1 : decide ((k : Int) < (n : Int)) = false := by simp; omega
      have hd2 : decide (k < n) = false := by simp; omega
      go_wp2_with fail
      go_ret
      exact ⟨rfl, hb⟩
end Go.Proofs.Ytcaolnpkpialdaa
