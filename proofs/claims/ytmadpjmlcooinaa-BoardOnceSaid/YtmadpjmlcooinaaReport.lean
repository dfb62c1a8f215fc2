/- The walks of board.counts and board.report, at numbers that may be. -/
import Derived.Test.YtmadpjmlcooinaaBd
import Derived.Deep.LoopGhost
import Derived.Deep.DeepCutAuto
namespace Go.Proofs.Ytmadpjmlcooinaa
open Go.RowKit
set_option maxHeartbeats 2000000 in
set_option maxRecDepth 100000 in
theorem counts_ok (p : Option Addr) (c n : Nat) (l : List Nat) (w : World) (h : Sl w 1 (.slice p n c) n (nts l)) (hl : ∀ x ∈ l, x ≤ 1000) :
    Calls Try.prog 48 #[.slice p n c, .int .i64 (n : Int)] w fun e w' => e = .returned (.bool true) ∧ w = w' := by
  have HL := Lib.hid h
  have HB := Lib.hid hl
  have hln : n = l.length := by obtain ⟨p', c', hp, _, _, h3, _⟩ := h; cases hp; rw [nts_len] at h3; omega
  have HLN := Lib.hid hln
  have hcc : n ≤ c ∧ c ≤ 9223372036854775807 := by obtain ⟨p', c', hp, h1, h2, _⟩ := h; cases hp; exact ⟨h1, by unfold maxLen at h2; omega⟩
  obtain ⟨hcc1, hcc2⟩ := hcc
  clear h hl hln
  have hnn : ((n : Int) == (n : Int)) = true := by simp
  go_enter Try.func48, Try.ntmps48
  go_wp2_with fail
  go_loopg [9] n (fun gk v9 wr => ∃ k : Nat, v9 = .int .i64 (k : Int) ∧ k + gk = n ∧ w = wr)
  case atStart => exact ⟨0, rfl, by omega, rfl⟩
  case round =>
    obtain ⟨k, rfl, hgk, rfl⟩ := hrel
    have HGK := Lib.hid hgk
    have hk : k ≤ n := by omega
    clear hgk
    by_cases hlt : k < n
    · have hkl : k < l.length := by have := HLN.out; omega
      have hx := HB.out _ (List.getElem_mem hkl)
      obtain ⟨b, off, rfl, hc0⟩ := HL.out.get (nts_at hkl)
      generalize l[k] = x at hx hc0
      have hk0 : (0 : Int) ≤ (k : Int) := by omega
      have hkn : (k : Int) < (n : Int) := by omega
      have hd1 : decide ((k : Int) < (n : Int)) = true := by simp; omega
      have hd2 : decide (k < n) = true := by simp; omega
      have hd3 : decide ((x : Int) < 0) = false := by simp <;> omega
      have hd4 : decide ((1099511627776 : Int) < (x : Int)) = false := by simp; omega
      go_wp2_with fail
      go_roundg (n - (k + 1))
      case measure => have := HGK.out; omega
      case rel => exact ⟨k + 1, by go_num, by omega, rfl⟩
    · have hd1 : decide ((k : Int) < (n : Int)) = false := by simp; omega
      have hd2 : decide (k < n) = false := by simp; omega
      go_wp2_with fail
      go_ret
      exact ⟨rfl, rfl⟩
def rpE (r : Rp) : Int := if r.ep = 2 ∧ r.st = 3 then 0 else 11
set_option maxHeartbeats 4000000 in
set_option maxRecDepth 100000 in
theorem report_ok (W : Nat) (r : Rp) (rv s g : Value) (w : World) (hr : RpOk W r) (hv : RpV w r s g) (he : r.ep ≤ 1000) (hst : r.st ≤ 1000) :
    Calls Try.prog 41 #[.agg #[.int .i64 (W : Int), .int .i64 2, .int .i64 3, rv], .agg (rpC r s g).toArray] w fun e w' => e = .returned (.int .i64 (rpE r)) ∧ Below w.heap.size w w' := by
  obtain ⟨wk, ep, st, sent, got, wa, op⟩ := r
  obtain ⟨h1, h2, h3, h4, h5, h6, h7⟩ := hr
  dsimp only at h1 h2 h3 h4 h5 h6 h7 he hst
  have hpc : ∃ p c, s = .slice p W c := by obtain ⟨p, c, hp, _⟩ := hv.1; exact ⟨p, c, by rw [hp]; simp only [h2]⟩
  have hqc : ∃ p c, g = .slice p W c := by obtain ⟨p, c, hp, _⟩ := hv.2; exact ⟨p, c, by rw [hp]; simp only [h3]⟩
  obtain ⟨p, c, rfl⟩ := hpc
  obtain ⟨q, d, rfl⟩ := hqc
  obtain ⟨hv1, hv2⟩ := hv
  dsimp only at hv1 hv2
  rw [h2] at hv1
  rw [h3] at hv2
  have HC1 := Lib.hid (fun W' (hb : Below w.heap.size w W') => counts_ok p c W sent W' (hv1.later hb) h4)
  have HC2 := Lib.hid (fun W' (hb : Below w.heap.size w W') => counts_ok q d W got W' (hv2.later hb) h5)
  clear h2 h3 h4 h5 hv1 hv2
  unfold rpC rpE
  dsimp only
  obtain ⟨b1, B1, z1⟩ := boxed0 w [.int .i64 (W : Int), .int .i64 2, .int .i64 3, rv] 56
  obtain ⟨b2, B2, z2⟩ := boxed0 (w.alloc (.cells #[.int .i64 (W : Int), .int .i64 2, .int .i64 3, rv] 56)) [.int .i64 (wk : Int), .int .i64 (ep : Int), .int .i64 (st : Int), .slice p W c, .slice q W d, .int .i64 (wa : Int), .int .i64 (op : Int)] 61
  have hbw := b1.trans (b2.mono (by omega))
  have X1 := B1.next b2
  have e1 : (w.alloc (.cells #[.int .i64 (W : Int), .int .i64 2, .int .i64 3, rv] 56)).heap.size = w.heap.size + 1 := by simp
  rw [e1] at B2
  obtain ⟨⟨hx0, hx1, hx2, hx3, hx4, hx5, hx6⟩, _⟩ := B2.seven
  obtain ⟨hy0, hy1, hy2, _, _, _, _, _⟩ := X1.four
  have hd1 : decide ((wk : Int) < 0) = false := by simp <;> omega
  have hd2 : decide ((W : Int) ≤ (wk : Int)) = false := by simp; omega
  have hd3 : decide (W ≤ wk) = false := by simp; omega
  have hd4 : decide ((wa : Int) < 0) = false := by simp <;> omega
  have hd5 : decide ((1099511627776 : Int) < (wa : Int)) = false := by simp; omega
  have hd6 : decide ((op : Int) < 0) = false := by simp <;> omega
  have hd7 : decide ((1099511627776 : Int) < (op : Int)) = false := by simp; omega
  clear b1 b2 B1 B2 X1 z1 z2 e1
  have HBW := Lib.hid hbw
  clear hbw
  by_cases he2 : ep = 2
  · subst he2
    by_cases hs3 : st = 3
    · subst hs3
      rw [if_pos ⟨rfl, rfl⟩]
      go_enter Try.func41, Try.ntmps41
      go_wp2_with (first
        | (go_at_call_of 48 (Value.slice p W c); refine (HC1.out _ HBW.out).mono ?_; rintro e w' ⟨rfl, rfl⟩)
        | (go_at_call_of 48 (Value.slice q W d); refine (HC2.out _ HBW.out).mono ?_; rintro e w' ⟨rfl, rfl⟩))
      go_ret
      exact ⟨rfl, HBW.out⟩
    · have hne : ((st : Int) != 3) = true := by simp; omega
      rw [if_neg (fun h => hs3 h.2)]
      clear hs3
      go_enter Try.func41, Try.ntmps41
      go_wp2_with (first
        | (go_at_call_of 48 (Value.slice p W c); refine (HC1.out _ HBW.out).mono ?_; rintro e w' ⟨rfl, rfl⟩)
        | (go_at_call_of 48 (Value.slice q W d); refine (HC2.out _ HBW.out).mono ?_; rintro e w' ⟨rfl, rfl⟩))
      go_ret
      exact ⟨rfl, HBW.out⟩
  · have hne : ((ep : Int) != 2) = true := by simp; omega
    rw [if_neg (fun h => he2 h.1)]
    clear he2
    go_enter Try.func41, Try.ntmps41
    go_wp2_with (first
      | (go_at_call_of 48 (Value.slice p W c); refine (HC1.out _ HBW.out).mono ?_; rintro e w' ⟨rfl, rfl⟩)
      | (go_at_call_of 48 (Value.slice q W d); refine (HC2.out _ HBW.out).mono ?_; rintro e w' ⟨rfl, rfl⟩))
    go_ret
    exact ⟨rfl, HBW.out⟩
end Go.Proofs.Ytmadpjmlcooinaa
