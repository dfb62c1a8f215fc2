/- The walk of graph.Check at graphs that are right. -/
import Derived.Test.YtiaflhlfodcbjaaEdge
import Derived.IntWalk
namespace Go.Proofs.Ytiaflhlfodcbjaa
open Go.RowKit
set_option maxHeartbeats 400000 in
set_option maxRecDepth 100000 in
theorem inside_ok (v N g : Nat) (s : Value) (w : World) (h : Bx w g [.int .i64 (N : Int), s]) (hv : v < N) :
    Calls Try.prog 49 #[.int .i64 (v : Int), .pointer (some ⟨g, 0, none⟩)] w fun e w' => e = .returned (.bool true) ∧ w = w' := by
  obtain ⟨h0, h1, _, _⟩ := h.two
  have hd1 : decide ((0 : Int) ≤ (v : Int)) = true := by simp
  have hd2 : decide ((v : Int) < (N : Int)) = true := by simp; omega
  have hd3 : decide (v < N) = true := by simp; omega
  go_enter Try.func49, Try.ntmps49
  go_wp2_with fail
  go_ret
  exact ⟨rfl, rfl⟩
set_option maxHeartbeats 2000000 in
set_option maxRecDepth 100000 in
theorem check_ok (N n c : Nat) (p : Option Addr) (E : List Eg) (w : World) (h : Sl w 3 (.slice p n c) n (ecs E)) (hG : InG N E) (hN : N ≤ 200) (hn : n ≤ 600) :
    Calls Try.prog 35 #[.agg #[.int .i64 (N : Int), .slice p n c]] w fun e w' => e = .returned (.int .i64 0) ∧ Below w.heap.size w w' := by
  obtain ⟨hln, hnc, hc63⟩ := h.elen
  have HL := Lib.hid h
  have HLN := Lib.hid hln
  have HG := Lib.hid hG
  clear h hln hG
  have B0 := bx_new w [.int .i64 (N : Int), .slice p n c] 25
  have hW := (Below.refl w.heap.size w).alloc (Nat.le_refl _) (.cells #[.int .i64 (N : Int), .slice p n c] 25)
  have hd1 : decide ((N : Int) < 0) = false := by simp <;> omega
  have hd2 : decide ((200 : Int) < (N : Int)) = false := by simp; omega
  have hd3 : decide ((600 : Int) < (n : Int)) = false := by simp; omega
  go_enter Try.func35, Try.ntmps35
  go_wp2_with fail
  have hsz : w.heap.size + 1 ≤ (w.alloc (.cells #[.int .i64 (N : Int), .slice p n c] 25)).heap.size := by simp
  generalize w.alloc (.cells #[.int .i64 (N : Int), .slice p n c] 25) = W at *
  go_loopg [24] n (fun gk v24 wr => ∃ k : Nat, v24 = .int .i64 (k : Int) ∧ k + gk = n ∧ Below w.heap.size w wr ∧ Bx wr w.heap.size [.int .i64 (N : Int), .slice p n c] ∧ w.heap.size + 1 ≤ wr.heap.size)
  case atStart => exact ⟨0, rfl, by omega, hW, B0, hsz⟩
  case round =>
    clear B0 hW hsz
    obtain ⟨k, rfl, hgk, hb, B0, hsz⟩ := hrel
    have HGK := Lib.hid hgk
    have hk : k ≤ n := by omega
    clear hgk
    by_cases hlt : k < n
    · have hkl : k < E.length := by have := HLN.out; omega
      have hin := HG.out _ (List.getElem_mem hkl)
      obtain ⟨b, off, rfl, hc0, hc1, hc2⟩ := (HL.out.later hb).edge hkl
      generalize E[k] = x at hin hc0 hc1 hc2
      obtain ⟨x1, x2, x3⟩ := x
      dsimp only at hin hc0 hc1 hc2
      obtain ⟨hi1, hi2, hi3⟩ := hin
      have HB0 := Lib.hid B0
      have HX := Lib.hid (fun W (h : Bx W w.heap.size [.int .i64 (N : Int), .slice (some ⟨b, off, none⟩) n c]) => inside_ok x1 N w.heap.size _ W h hi1)
      have HY := Lib.hid (fun W (h : Bx W w.heap.size [.int .i64 (N : Int), .slice (some ⟨b, off, none⟩) n c]) => inside_ok x2 N w.heap.size _ W h hi2)
      clear B0
      have hk0 : (0 : Int) ≤ (k : Int) := by omega
      have hkn : (k : Int) < (n : Int) := by omega
      have hd1' : decide ((k : Int) < (n : Int)) = true := by simp; omega
      have hd2' : decide (k < n) = true := by simp; omega
      have hd4 : decide ((x3 : Int) < 0) = false := by simp <;> omega
      have hd5 : decide ((1099511627776 : Int) < (x3 : Int)) = false := by simp; omega
      go_wp2_with (first
        | (go_at_call_of 49 (Value.int .i64 (x1 : Int)); refine (HX.out _ (HB0.out.alloc _)).mono ?_; rintro e w' ⟨rfl, rfl⟩)
        | (go_at_call_of 49 (Value.int .i64 (x2 : Int)); refine (HY.out _ (HB0.out.alloc _)).mono ?_; rintro e w' ⟨rfl, rfl⟩))
      go_roundg (n - (k + 1))
      case measure => have := HGK.out; omega
      case rel => exact ⟨k + 1, by go_num, by omega, hb.alloc (by omega) _, HB0.out.alloc _, by simp; omega⟩
    · have hd1' : decide ((k : Int) < (n : Int)) = false := by simp; omega
      have hd2' : decide (k < n) = false := by simp; omega
      go_wp2_with fail
      go_ret
      exact ⟨rfl, hb⟩
end Go.Proofs.Ytiaflhlfodcbjaa
