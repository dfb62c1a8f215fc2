/- The walk of (*round).quiet. -/
import Derived.Test.YtiaflhlfodcbjaaRdS
import Derived.Deep.LoopGhost
import Derived.Deep.QuietTactic
import Derived.BigQuiet
namespace Go.Proofs.Ytiaflhlfodcbjaa
open Go.RowKit
/-- the cells of a round, its flags given -/
def rCellsF (N : Nat) (p : Option Addr) (n c kind : Nat) (src : Int) (st ph : Nat) (fr dn : Bool) (pv : Option Addr) (cv gm : Nat) : List Value :=
  [.int .i64 (N : Int), .slice p n c, .int .i64 (kind : Int), .int .i64 src, .int .i64 (st : Int), .int .i64 (ph : Int), .bool fr, .bool dn, .slice pv N cv, .slice (some ⟨gm, 0, none⟩) N N, .int .i64 0]
theorem grown_q {w w1 : World} {s : Nat} (h : w.grownBy w1 (some s)) (i : Nat) (u : Value) : w.grownBy (w1.setCell ⟨s, i, none⟩ u) (some s) := 
  ⟨h.os, h.tape, h.output, by simp [World.setCell]; exact h.size, fun k hk hne => (heap_setCell_other w1 ⟨s, i, none⟩ k u (fun e => hne (by first | exact congrArg some e.symm | exact congrArg some e | simp [e]))).trans (h.block k hk hne)⟩
set_option maxHeartbeats 1000000 in
set_option maxRecDepth 100000 in
theorem rqclo_ok (xa xb : Int) (W : World) :
    Calls Try.prog 48 #[.agg #[.int .i64 xa, .int .i64 xb]] W fun e w' => e = .returned (.bool (xb == -1)) ∧ Below W.heap.size W w' := by
  obtain ⟨b1, B1, z1⟩ := boxed0 W [.int .i64 xa, .int .i64 xb] 40
  obtain ⟨hx0, hx1, _, _⟩ := B1.two
  clear B1 z1
  go_enter Try.func48, Try.ntmps48
  go_wp2_with fail
  go_ret
  exact ⟨rfl, b1⟩
set_option maxHeartbeats 4000000 in
set_option maxRecDepth 100000 in
theorem rqindex_ok (n c : Nat) (p : Option Addr) (l : List (Int × Int)) (w : World) (h : Sl w 2 (.slice p n c) n (vlC l)) (hn : n = l.length) :
    Calls Try.prog 64 #[.slice p n c, .func (.func 48) #[] #[]] w fun e w' => (∃ r : Int, e = .returned (.int .i64 r) ∧ decide (0 ≤ r) = l.any fun x => x.2 == -1) ∧ Below w.heap.size w w' := by
  obtain ⟨p', c', hpe, hnc, hc63, -⟩ := id h
  cases hpe
  have hc64 : c ≤ 9223372036854775807 := by unfold maxLen at hc63; omega
  clear hc63
  have HLN := Lib.hid hn
  have HL := Lib.hid h
  clear h hn
  go_enter Try.func64, Try.ntmps64
  go_wp2_with fail
  go_loopg [5, 8] n (fun gk v5 v8 wr => ∃ k : Nat, v8 = .int .i64 (k : Int) ∧ k + gk = n ∧ Hid ((l.take k).any (fun x => x.2 == -1) = false) ∧ Below w.heap.size w wr)
  case atStart => exact ⟨0, rfl, by omega, Lib.hid rfl, Below.refl _ _⟩
  case round =>
    obtain ⟨k, rfl, hgk, HM, hb⟩ := hrel
    have HGK := Lib.hid hgk
    have hk : k ≤ n := by omega
    clear hgk
    by_cases hlt : k < n
    · have hkl : k < l.length := by have := HLN.out; omega
      obtain ⟨b2, off2, rfl, hs0, hs1⟩ := (HL.out.later hb).vl hkl
      have HT := Lib.hid (show (l.take (k + 1)).any (fun x => x.2 == -1) = (l[k].2 == -1) from by rw [List.take_succ_eq_append_getElem hkl, List.any_append, HM.out]; simp)
      have HMM := Lib.hid (List.getElem_mem hkl)
      generalize l[k] = x at hs0 hs1 HT HMM
      obtain ⟨xa, xb⟩ := x
      dsimp only at hs0 hs1 HT
      have HQ := Lib.hid (fun W => rqclo_ok xa xb W)
      have hk0 : (0 : Int) ≤ (k : Int) := by omega
      have hkn : (k : Int) < (n : Int) := by omega
      have hd1 : decide ((k : Int) < (n : Int)) = true := by simp; omega
      have hd2 : decide (k < n) = true := by simp; omega
      clear hlt
      by_cases hx : xb = -1
      · have he : (xb == -1) = true := by simp [hx]
        rw [he] at HQ
        have HA := Lib.hid (show l.any (fun x => x.2 == -1) = true from List.any_eq_true.2 ⟨_, HMM.out, he⟩)
        clear hx he
        go_wp2_with fail
        refine (HQ.out _).mono ?_; rintro e w2 ⟨rfl, hb2⟩
        go_wp2_with fail
        go_ret
        exact ⟨⟨_, rfl, by rw [HA.out]; simp⟩, hb.trans (hb2.mono hb.size)⟩
      · have he : (xb == -1) = false := by simp [hx]
        rw [he] at HQ HT
        clear hx he
        go_wp2_with fail
        refine (HQ.out _).mono ?_; rintro e w2 ⟨rfl, hb2⟩
        go_wp2_with fail
        go_roundg (n - (k + 1))
        case measure => have := HGK.out; omega
        case rel => exact ⟨k + 1, by go_num, by omega, HT, hb.trans (hb2.mono hb.size)⟩
    · have hd1 : decide ((k : Int) < (n : Int)) = false := by simp; omega
      have hd2 : decide (k < n) = false := by simp; omega
      have HA := Lib.hid (show l.any (fun x => x.2 == -1) = false from by have h1 := HM.out; rwa [List.take_of_length_le (by have := HLN.out; omega)] at h1)
      go_wp2_with fail
      go_ret
      exact ⟨⟨_, rfl, by rw [HA.out]; rfl⟩, hb⟩
set_option maxHeartbeats 1000000 in
set_option maxRecDepth 100000 in
theorem rqcontains_ok (n c : Nat) (p : Option Addr) (l : List (Int × Int)) (w : World) (h : Sl w 2 (.slice p n c) n (vlC l)) (hn : n = l.length) :
    Calls Try.prog 47 #[.slice p n c, .func (.func 48) #[] #[]] w fun e w' => e = .returned (.bool (l.any fun x => x.2 == -1)) ∧ Below w.heap.size w w' := by
  have HI := Lib.hid (rqindex_ok n c p l w h hn)
  clear h hn
  go_enter Try.func47, Try.ntmps47
  go_wp2_with fail
  refine HI.out.mono ?_; rintro e w2 ⟨⟨r, rfl, hr⟩, hb2⟩
  have HR := Lib.hid hr
  clear hr
  go_wp2_with fail
  go_ret
  exact ⟨by rw [← HR.out]; rfl, hb2⟩
/-- what becomes of phase, fresh and done where nothing more is said -/
def quF (kind ph : Nat) (bad : Bool) : Nat × Bool × Bool := if kind ≠ 3 then (ph, false, true) else if ph = 0 then (1, true, false) else if bad then (0, true, false) else (ph, false, true)
set_option maxHeartbeats 8000000 in
set_option maxRecDepth 100000 in
theorem rquiet_ok (p pv : Option Addr) (c n N kind st ph cv gr gm : Nat) (src : Int) (l : List (Int × Int)) (w : World)
    (hk : kind ≤ 3) (hr : Bx w gr (rCells N p n c kind src st ph pv cv gm)) (hv : Sl w 2 (.slice pv N cv) N (vlC l)) (hl : N = l.length) (hph : ph ≤ 1) :
    Calls Try.prog 29 #[.pointer (some ⟨gr, 0, none⟩)] w fun e w' => e = .returned (.tuple #[]) ∧ w.grownBy w' (some gr) ∧
      Bx w' gr (rCellsF N p n c kind src st (quF kind ph (l.any fun x => x.2 == -1)).1 (quF kind ph (l.any fun x => x.2 == -1)).2.1 (quF kind ph (l.any fun x => x.2 == -1)).2.2 pv cv gm) := by
  have HC := Lib.hid (rqcontains_ok N cv pv l w hv hl)
  generalize (l.any fun x => x.2 == -1) = bad at HC ⊢
  have HR := Lib.hid hr
  unfold rCells at *
  clear hr hv hl
  have hr8 := (HR.out.at (i := 8) rfl).1
  have h64 : gr < 1000000000 ∨ True := .inr trivial
  clear h64
  go_enter Try.func29, Try.ntmps29
  go_wp2_with fail
  refine HC.out.mono ?_; rintro e w2 ⟨rfl, hb2⟩
  have HR2 := Lib.hid (HR.out.next hb2)
  have HG2 := Lib.hid (grown_belowS (s := gr) hb2)
  clear hb2 hr8 HR HC
  have hr2 := (HR2.out.at (i := 2) rfl).1
  have hr5 := (HR2.out.at (i := 5) rfl).1
  have hr6 := (HR2.out.at (i := 6) rfl).1
  have hr7 := (HR2.out.at (i := 7) rfl).1
  have hf5 := (HR2.out.at (i := 5) rfl).2
  have hf6 := (HR2.out.at (i := 6) rfl).2
  have hf7 := (HR2.out.at (i := 7) rfl).2
  by_cases h3 : kind = 3
  · subst h3
    by_cases h0 : ph = 0
    · subst h0
      go_wp2_with fail
      go_end0
      exact ⟨rfl, grown_q (grown_q HG2.out _ _) _ _, (HR2.out.setc 5 _).setc 6 _⟩
    · obtain rfl : ph = 1 := by omega
      clear h0
      cases bad with
      | true =>
        go_wp2_with fail
        go_end0
        exact ⟨rfl, grown_q (grown_q HG2.out _ _) _ _, (HR2.out.setc 5 _).setc 6 _⟩
      | false =>
        go_wp2_with fail
        go_end0
        exact ⟨rfl, grown_q HG2.out _ _, HR2.out.setc 7 _⟩
  · have he : ((kind : Int) != 3) = true := by simp; omega
    have hq : quF kind ph bad = (ph, false, true) := by unfold quF; rw [if_pos h3]
    have HQQ := Lib.hid hq
    clear hq h3
    go_wp2_with fail
    go_end0
    exact ⟨rfl, grown_q HG2.out _ _, by rw [HQQ.out]; exact HR2.out.setc 7 _⟩
theorem nextF_quiet {kind : Nat} {src : Int} {N : Nat} {E : List Eg} {s : RSt} (hd : s.done = false) (ha : anyL (nMail kind src N E s) = false) :
    nextF kind src N E s = ⟨s.step + 1, (quF kind s.phase ((nVals kind src N s).any fun x => x.2 == -1)).1, (quF kind s.phase ((nVals kind src N s).any fun x => x.2 == -1)).2.1, (quF kind s.phase ((nVals kind src N s).any fun x => x.2 == -1)).2.2, nVals kind src N s, nMail kind src N E s⟩ := by
  unfold nextF quF
  rw [if_neg (by simp [hd]), if_neg (by simp [ha])]
  (repeat' split) <;> rfl
end Go.Proofs.Ytiaflhlfodcbjaa
