/- The walk of strong.wake in the phase Back. -/
import Derived.Test.YtiaflhlfodcbjaaBoxed
import Derived.Test.YtiaflhlfodcbjaaPProg
import Derived.Deep.LoopGhost
import Derived.Deep.DeepCutAuto
import Derived.IntWalk
namespace Go.Proofs.Ytiaflhlfodcbjaa
open Go.RowKit
theorem IsI.getI {w : World} {p : Option Addr} {c n : Nat} {l : List Int} (h : IsI w (.slice p n c) l) {i : Nat} (hi : i < l.length) : ∃ b off, p = some ⟨b, off, none⟩ ∧ w.cell? ⟨b, off + i, none⟩ = some (.int .i64 l[i]) := by
  have hn := h.lens.1
  subst hn
  exact h.1.get (by simp [its, hi])
def vI (a b : Int) : Value := .agg #[.int .i64 a, .int .i64 b]
set_option maxHeartbeats 2000000 in
set_option maxRecDepth 100000 in
theorem lower_ok (p : Option Addr) (c : Nat) (a b : Int) (l : List Int) (w : World) (hl : IsI w (.slice p l.length c) l) :
    Calls Try.prog 115 #[.agg #[.int .i64 a, .int .i64 b], .slice p l.length c] w fun e w' => e = .returned (.tuple #[.agg #[.int .i64 (lwA a l), .int .i64 b], .bool (lwS a false l)]) ∧ Below w.heap.size w w' := by
  obtain ⟨-, hlc, hc63⟩ := hl.lens
  have HL := Lib.hid hl
  clear hl
  obtain ⟨n, hn⟩ : ∃ n, n = l.length := ⟨_, rfl⟩
  have HN := Lib.hid hn
  rw [← hn] at hlc ⊢
  clear hn
  obtain ⟨b1, B1, z1⟩ := boxed0 w [.int .i64 a, .int .i64 b] 40
  obtain ⟨b2, B2, z2⟩ := boxed0 (w.alloc (.cells #[.int .i64 a, .int .i64 b] 40)) [.int .i64 0, .int .i64 0] 40
  have hbw := b1.trans (b2.mono (by omega))
  have X1 := B1.next b2
  have e1 : (w.alloc (.cells #[.int .i64 a, .int .i64 b] 40)).heap.size = w.heap.size + 1 := by simp
  rw [e1] at B2 z2
  clear b1 b2 B1 e1 z1 z2
  go_enter Try.func115, Try.ntmps115
  go_wp2_with fail
  generalize ((w.alloc (.cells #[.int .i64 a, .int .i64 b] 40)).alloc (.cells #[.int .i64 0, .int .i64 0] 40)) = W2 at *
  obtain ⟨wo, rfl⟩ : ∃ wo : World, wo = w := ⟨_, rfl⟩
  go_loopg [6, 8, 11] n (fun gk v6 v8 v11 wr => ∃ (k : Nat) (a' : Int) (s' : Bool), v11 = .int .i64 (k : Int) ∧ k + gk = n ∧ v6 = .bool s' ∧ Hid (lwA a l = lwA a' (l.drop k)) ∧ Hid (lwS a false l = lwS a' s' (l.drop k)) ∧ Below wo.heap.size wo wr ∧ Bx wr wo.heap.size [.int .i64 a', .int .i64 b] ∧ Bx wr (wo.heap.size + 1) [.int .i64 0, .int .i64 0])
  case atStart => exact ⟨0, a, false, rfl, by omega, rfl, Lib.hid rfl, Lib.hid rfl, hbw, X1, B2⟩
  case round =>
    clear hbw X1 B2
    obtain ⟨k, a', s', rfl, hgk, rfl, hA, hS, hb, X1, B2⟩ := hrel
    have HGK := Lib.hid hgk
    have hk : k ≤ n := by omega
    clear hgk
    have HB := Lib.hid hb
    have HX := Lib.hid X1
    have HR := Lib.hid B2
    obtain ⟨hx0, hx1, hf0, hf1⟩ := X1.two
    obtain ⟨hr0, hr1, hg0, hg1⟩ := B2.two
    clear X1 B2 hb
    by_cases hlt : k < n
    · have hkl : k < l.length := by have := HN.out; omega
      have hdr := List.drop_eq_getElem_cons hkl
      obtain ⟨bb, off, rfl, hc0⟩ := (HL.out.later HB.out).getI hkl
      generalize l[k] = m at hdr hc0
      have hk0 : (0 : Int) ≤ (k : Int) := by omega
      have hkn : (k : Int) < (n : Int) := by omega
      have hd1 : decide ((k : Int) < (n : Int)) = true := by simp; omega
      have hd2 : decide (k < n) = true := by simp; omega
      by_cases hc1 : a' = -1
      · have hA2 : lwA a l = lwA m (l.drop (k + 1)) := by rw [hA.out, hdr]; show (if a' = -1 ∨ m < a' then _ else _) = _; rw [if_pos (Or.inl hc1)]
        have hS2 : lwS a false l = lwS m true (l.drop (k + 1)) := by rw [hS.out, hdr]; show (if a' = -1 ∨ m < a' then _ else _) = _; rw [if_pos (Or.inl hc1)]
        have HA2 := Lib.hid hA2
        have HS2 := Lib.hid hS2
        subst hc1
        clear hdr hA2 hS2 hA hS
        go_wp2_with fail
        go_roundg (n - (k + 1))
        case measure => have := HGK.out; omega
        case rel => exact ⟨k + 1, m, true, by go_num, by omega, rfl, HA2, HS2, HB.out.setCell (Nat.le_refl _) _, HX.out.setc 0 _, bx_oth HR.out (by simp) _⟩
      · by_cases hc2 : m < a'
        · have hA2 : lwA a l = lwA m (l.drop (k + 1)) := by rw [hA.out, hdr]; show (if a' = -1 ∨ m < a' then _ else _) = _; rw [if_pos (Or.inr hc2)]
          have hS2 : lwS a false l = lwS m true (l.drop (k + 1)) := by rw [hS.out, hdr]; show (if a' = -1 ∨ m < a' then _ else _) = _; rw [if_pos (Or.inr hc2)]
          have HA2 := Lib.hid hA2
          have HS2 := Lib.hid hS2
          have he : (a' == -1) = false := by simp [hc1]
          have hd : decide (m < a') = true := decide_eq_true hc2
          clear hdr hA2 hS2 hA hS hc1 hc2
          go_wp2_with fail
          go_roundg (n - (k + 1))
          case measure => have := HGK.out; omega
          case rel => exact ⟨k + 1, m, true, by go_num, by omega, rfl, HA2, HS2, HB.out.setCell (Nat.le_refl _) _, HX.out.setc 0 _, bx_oth HR.out (by simp) _⟩
        · have hA2 : lwA a l = lwA a' (l.drop (k + 1)) := by rw [hA.out, hdr]; show (if a' = -1 ∨ m < a' then _ else _) = _; rw [if_neg (by omega)]
          have hS2 : lwS a false l = lwS a' s' (l.drop (k + 1)) := by rw [hS.out, hdr]; show (if a' = -1 ∨ m < a' then _ else _) = _; rw [if_neg (by omega)]
          have HA2 := Lib.hid hA2
          have HS2 := Lib.hid hS2
          have he : (a' == -1) = false := by simp [hc1]
          have hd : decide (m < a') = false := decide_eq_false hc2
          clear hdr hA2 hS2 hA hS hc1 hc2
          go_wp2_with fail
          go_roundg (n - (k + 1))
          case measure => have := HGK.out; omega
          case rel => exact ⟨k + 1, a', s', by go_num, by omega, rfl, HA2, HS2, HB.out, HX.out, HR.out⟩
    · have hd1 : decide ((k : Int) < (n : Int)) = false := by simp; omega
      have hd2 : decide (k < n) = false := by simp; omega
      have hA2 : lwA a l = a' := by rw [hA.out, List.drop_of_length_le (by have := HN.out; omega)]; rfl
      have hS2 : lwS a false l = s' := by rw [hS.out, List.drop_of_length_le (by have := HN.out; omega)]; rfl
      have HA2 := Lib.hid hA2
      have HS2 := Lib.hid hS2
      clear hA hS hA2 hS2
      go_wp2_with fail
      refine bodyPost_ret (v := .tuple #[.agg #[.int .i64 a', .int .i64 b], .bool s']) ?_ rfl ⟨by rw [HA2.out, HS2.out], ?_⟩
      · rw [results_cell_tmp rfl]
        go_simp
      · iterate 2 (refine Below.setCell ?_ (by simp <;> omega) _)
        exact HB.out
end Go.Proofs.Ytiaflhlfodcbjaa
namespace Go.Proofs.Ytiaflhlfodcbjaa
open Go.RowKit
set_option maxHeartbeats 2000000 in
set_option maxRecDepth 100000 in
theorem weak_wake (p : Option Addr) (c : Nat) (v src a b ph : Int) (l : List Int) (w : World) (hl : IsI w (.slice p l.length c) l) :
    Calls Try.prog 117 #[.agg #[], .int .i64 v, .int .i64 src, .agg #[.int .i64 a, .int .i64 b], .int .i64 ph, .bool false, .slice p l.length c] w fun e w' => e = .returned (.tuple #[.agg #[.int .i64 (lwA a l), .int .i64 b], .bool (lwS a false l)]) ∧ Below w.heap.size w w' := by
  have HLO := Lib.hid (fun (W : World) (hW : Below w.heap.size w W) => lower_ok p c a b l W (hl.later hW))
  clear hl
  obtain ⟨b0, -, z0⟩ := boxed0 w [] 110
  obtain ⟨b1, B1, z1⟩ := boxed0 (w.alloc (.cells #[] 110)) [.int .i64 a, .int .i64 b] 40
  obtain ⟨b2, B2, z2⟩ := boxed0 ((w.alloc (.cells #[] 110)).alloc (.cells #[.int .i64 a, .int .i64 b] 40)) [.int .i64 0, .int .i64 0] 40
  have hbw := b0.trans ((b1.trans (b2.mono (by omega))).mono (by omega))
  have X1 := B1.next b2
  have e0 : (w.alloc (.cells #[] 110)).heap.size = w.heap.size + 1 := by simp
  have e1 : ((w.alloc (.cells #[] 110)).alloc (.cells #[.int .i64 a, .int .i64 b] 40)).heap.size = w.heap.size + 2 := by simp
  rw [e1] at B2 z2
  rw [e0] at X1
  obtain ⟨hx0, hx1, hf0, hf1⟩ := X1.two
  have HX := Lib.hid X1
  have HB2 := Lib.hid B2
  have HBW := Lib.hid hbw
  clear b0 b1 b2 B1 e1 e0 z0 z1 z2 B2 X1 hbw
  go_enter Try.func117, Try.ntmps117
  go_upto_region 3 with fail
  generalize (((w.alloc (.cells #[] 110)).alloc (.cells #[.int .i64 a, .int .i64 b] 40)).alloc (.cells #[.int .i64 0, .int .i64 0] 40)) = W2 at *
  go_wp2_with (go_at_call 115; refine (HLO.out _ HBW.out).mono ?_; rintro e w3 ⟨rfl, hb3⟩; have Z3 := HB2.out.next hb3; have HW3 := Lib.hid (below_next HBW.out (Nat.le_refl _) hb3); obtain ⟨hg0, hg1, hgf0, hgf1⟩ := Z3.two; clear Z3 hb3)
  refine bodyPost_ret (v := .tuple #[.agg #[.int .i64 (lwA a l), .int .i64 b], .bool (lwS a false l)]) ?_ rfl ⟨rfl, ?_⟩
  · rw [results_cell_tmp rfl]
    go_simp
  · iterate 2 (refine Below.setCell ?_ (by simp <;> omega) _)
    exact HW3.out
set_option maxHeartbeats 2000000 in
set_option maxRecDepth 100000 in
theorem dist_wake (p : Option Addr) (c : Nat) (v src a b ph : Int) (l : List Int) (w : World) (hl : IsI w (.slice p l.length c) l) :
    Calls Try.prog 113 #[.agg #[], .int .i64 v, .int .i64 src, .agg #[.int .i64 a, .int .i64 b], .int .i64 ph, .bool false, .slice p l.length c] w fun e w' => e = .returned (.tuple #[.agg #[.int .i64 (lwA a l), .int .i64 b], .bool (lwS a false l)]) ∧ Below w.heap.size w w' := by
  have HLO := Lib.hid (fun (W : World) (hW : Below w.heap.size w W) => lower_ok p c a b l W (hl.later hW))
  clear hl
  obtain ⟨b0, -, z0⟩ := boxed0 w [] 109
  obtain ⟨b1, B1, z1⟩ := boxed0 (w.alloc (.cells #[] 109)) [.int .i64 a, .int .i64 b] 40
  obtain ⟨b2, B2, z2⟩ := boxed0 ((w.alloc (.cells #[] 109)).alloc (.cells #[.int .i64 a, .int .i64 b] 40)) [.int .i64 0, .int .i64 0] 40
  have hbw := b0.trans ((b1.trans (b2.mono (by omega))).mono (by omega))
  have X1 := B1.next b2
  have e0 : (w.alloc (.cells #[] 109)).heap.size = w.heap.size + 1 := by simp
  have e1 : ((w.alloc (.cells #[] 109)).alloc (.cells #[.int .i64 a, .int .i64 b] 40)).heap.size = w.heap.size + 2 := by simp
  rw [e1] at B2 z2
  rw [e0] at X1
  obtain ⟨hx0, hx1, hf0, hf1⟩ := X1.two
  have HX := Lib.hid X1
  have HB2 := Lib.hid B2
  have HBW := Lib.hid hbw
  clear b0 b1 b2 B1 e1 e0 z0 z1 z2 B2 X1 hbw
  go_enter Try.func113, Try.ntmps113
  go_upto_region 6 with fail
  generalize (((w.alloc (.cells #[] 109)).alloc (.cells #[.int .i64 a, .int .i64 b] 40)).alloc (.cells #[.int .i64 0, .int .i64 0] 40)) = W2 at *
  go_wp2_with (go_at_call 115; refine (HLO.out _ HBW.out).mono ?_; rintro e w3 ⟨rfl, hb3⟩; have Z3 := HB2.out.next hb3; have HW3 := Lib.hid (below_next HBW.out (Nat.le_refl _) hb3); obtain ⟨hg0, hg1, hgf0, hgf1⟩ := Z3.two; clear Z3 hb3)
  refine bodyPost_ret (v := .tuple #[.agg #[.int .i64 (lwA a l), .int .i64 b], .bool (lwS a false l)]) ?_ rfl ⟨rfl, ?_⟩
  · rw [results_cell_tmp rfl]
    go_simp
  · iterate 2 (refine Below.setCell ?_ (by simp <;> omega) _)
    exact HW3.out
end Go.Proofs.Ytiaflhlfodcbjaa
namespace Go.Proofs.Ytiaflhlfodcbjaa
open Go.RowKit
/-- the label that is given -/
def sbH (v a : Int) (fresh : Bool) (l : List Int) : Bool := if fresh then decide (a = v) else decide (a ∈ l)
set_option maxHeartbeats 4000000 in
set_option maxRecDepth 100000 in
theorem strong_lab (p : Option Addr) (n c : Nat) (v src a b ph : Int) (fresh : Bool) (w : World) (hb : b ≠ -1) :
    Calls Try.prog 119 #[.agg #[], .int .i64 v, .int .i64 src, .agg #[.int .i64 a, .int .i64 b], .int .i64 ph, .bool fresh, .slice p n c] w fun e w' => e = .returned (.tuple #[.agg #[.int .i64 a, .int .i64 b], .bool false]) ∧ Below w.heap.size w w' := by
  obtain ⟨b0, -, z0⟩ := boxed0 w [] 112
  obtain ⟨b1, B1, z1⟩ := boxed0 (w.alloc (.cells #[] 112)) [.int .i64 a, .int .i64 b] 40
  obtain ⟨b2, B2, z2⟩ := boxed0 ((w.alloc (.cells #[] 112)).alloc (.cells #[.int .i64 a, .int .i64 b] 40)) [.int .i64 0, .int .i64 0] 40
  have hbw := b0.trans ((b1.trans (b2.mono (by omega))).mono (by omega))
  have X1 := B1.next b2
  have e0 : (w.alloc (.cells #[] 112)).heap.size = w.heap.size + 1 := by simp
  have e1 : ((w.alloc (.cells #[] 112)).alloc (.cells #[.int .i64 a, .int .i64 b] 40)).heap.size = w.heap.size + 2 := by simp
  rw [e1] at B2 z2
  rw [e0] at X1
  obtain ⟨hx0, hx1, hf0, hf1⟩ := X1.two
  obtain ⟨hr0, hr1, hg0, hg1⟩ := B2.two
  have HBW := Lib.hid hbw
  have hbe : (b == -1) = false := by simp [hb]
  clear b0 b1 b2 B1 e1 e0 z0 z1 z2 B2 X1 hbw
  go_enter Try.func119, Try.ntmps119
  go_upto_region 1 with fail
  generalize (((w.alloc (.cells #[] 112)).alloc (.cells #[.int .i64 a, .int .i64 b] 40)).alloc (.cells #[.int .i64 0, .int .i64 0] 40)) = W2 at *
  go_wp2_with fail
  refine bodyPost_ret (v := .tuple #[.agg #[.int .i64 a, .int .i64 b], .bool false]) ?_ rfl ⟨rfl, ?_⟩
  · rw [results_cell_tmp rfl]
    go_simp
  · iterate 2 (refine Below.setCell ?_ (by simp <;> omega) _)
    exact HBW.out
set_option maxHeartbeats 4000000 in
set_option maxRecDepth 100000 in
theorem strong_fresh (p : Option Addr) (n c : Nat) (v src a : Int) (w : World) :
    Calls Try.prog 119 #[.agg #[], .int .i64 v, .int .i64 src, .agg #[.int .i64 a, .int .i64 (-1)], .int .i64 1, .bool true, .slice p n c] w fun e w' => e = .returned (.tuple #[.agg #[.int .i64 a, .int .i64 (if a = v then a else -1)], .bool (decide (a = v))]) ∧ Below w.heap.size w w' := by
  obtain ⟨b0, -, z0⟩ := boxed0 w [] 112
  obtain ⟨b1, B1, z1⟩ := boxed0 (w.alloc (.cells #[] 112)) [.int .i64 a, .int .i64 (-1)] 40
  obtain ⟨b2, B2, z2⟩ := boxed0 ((w.alloc (.cells #[] 112)).alloc (.cells #[.int .i64 a, .int .i64 (-1)] 40)) [.int .i64 0, .int .i64 0] 40
  have hbw := b0.trans ((b1.trans (b2.mono (by omega))).mono (by omega))
  have X1 := B1.next b2
  have e0 : (w.alloc (.cells #[] 112)).heap.size = w.heap.size + 1 := by simp
  have e1 : ((w.alloc (.cells #[] 112)).alloc (.cells #[.int .i64 a, .int .i64 (-1)] 40)).heap.size = w.heap.size + 2 := by simp
  rw [e1] at B2 z2
  rw [e0] at X1
  obtain ⟨hx0, hx1, hf0, hf1⟩ := X1.two
  obtain ⟨hr0, hr1, hg0, hg1⟩ := B2.two
  have HBW := Lib.hid hbw
  clear b0 b1 b2 B1 e1 e0 z0 z1 z2 B2 X1 hbw
  by_cases hav : a = v
  · have hd : decide (a = v) = true := decide_eq_true hav
    rw [if_pos hav, hd]
    have hbe : (a == v) = true := by simp [hav]
    clear hav hd
    go_enter Try.func119, Try.ntmps119
    go_upto_region 1 with fail
    generalize (((w.alloc (.cells #[] 112)).alloc (.cells #[.int .i64 a, .int .i64 (-1)] 40)).alloc (.cells #[.int .i64 0, .int .i64 0] 40)) = W2 at *
    go_wp2_with fail
    refine bodyPost_ret (v := .tuple #[.agg #[.int .i64 a, .int .i64 a], .bool true]) ?_ rfl ⟨rfl, ?_⟩
    · rw [results_cell_tmp rfl]
      go_simp
    · iterate 3 (refine Below.setCell ?_ (by simp <;> omega) _)
      exact HBW.out
  · have hd : decide (a = v) = false := decide_eq_false hav
    rw [if_neg hav, hd]
    have hbe : (a == v) = false := by simp [hav]
    clear hav hd
    go_enter Try.func119, Try.ntmps119
    go_upto_region 1 with fail
    generalize (((w.alloc (.cells #[] 112)).alloc (.cells #[.int .i64 a, .int .i64 (-1)] 40)).alloc (.cells #[.int .i64 0, .int .i64 0] 40)) = W2 at *
    go_wp2_with fail
    refine bodyPost_ret (v := .tuple #[.agg #[.int .i64 a, .int .i64 (-1)], .bool false]) ?_ rfl ⟨rfl, ?_⟩
    · rw [results_cell_tmp rfl]
      go_simp
    · iterate 2 (refine Below.setCell ?_ (by simp <;> omega) _)
      exact HBW.out
set_option maxHeartbeats 4000000 in
set_option maxRecDepth 100000 in
theorem strong_mail (p : Option Addr) (c : Nat) (v src a : Int) (l : List Int) (w : World) (hl : IsI w (.slice p l.length c) l) :
    Calls Try.prog 119 #[.agg #[], .int .i64 v, .int .i64 src, .agg #[.int .i64 a, .int .i64 (-1)], .int .i64 1, .bool false, .slice p l.length c] w fun e w' => e = .returned (.tuple #[.agg #[.int .i64 a, .int .i64 (if a ∈ l then a else -1)], .bool (decide (a ∈ l))]) ∧ Below w.heap.size w w' := by
  obtain ⟨-, hlc, hc63⟩ := hl.lens
  have HL := Lib.hid hl
  clear hl
  obtain ⟨n, hn⟩ : ∃ n, n = l.length := ⟨_, rfl⟩
  have HN := Lib.hid hn
  rw [← hn] at hlc ⊢
  clear hn
  obtain ⟨b0, -, z0⟩ := boxed0 w [] 112
  obtain ⟨b1, B1, z1⟩ := boxed0 (w.alloc (.cells #[] 112)) [.int .i64 a, .int .i64 (-1)] 40
  obtain ⟨b2, B2, z2⟩ := boxed0 ((w.alloc (.cells #[] 112)).alloc (.cells #[.int .i64 a, .int .i64 (-1)] 40)) [.int .i64 0, .int .i64 0] 40
  have hbw := b0.trans ((b1.trans (b2.mono (by omega))).mono (by omega))
  have X1 := B1.next b2
  have e0 : (w.alloc (.cells #[] 112)).heap.size = w.heap.size + 1 := by simp
  have e1 : ((w.alloc (.cells #[] 112)).alloc (.cells #[.int .i64 a, .int .i64 (-1)] 40)).heap.size = w.heap.size + 2 := by simp
  rw [e1] at B2 z2
  rw [e0] at X1
  obtain ⟨hx0, hx1, hf0, hf1⟩ := X1.two
  obtain ⟨hr0, hr1, hg0, hg1⟩ := B2.two
  have HBW := Lib.hid hbw
  have HX := Lib.hid X1
  have HR := Lib.hid B2
  clear b0 b1 b2 B1 e1 e0 z0 z1 z2 B2 X1 hbw
  go_enter Try.func119, Try.ntmps119
  go_upto_region 1 with fail
  generalize (((w.alloc (.cells #[] 112)).alloc (.cells #[.int .i64 a, .int .i64 (-1)] 40)).alloc (.cells #[.int .i64 0, .int .i64 0] 40)) = W2 at *
  go_wp2_with fail
  obtain ⟨W3, hW3⟩ : ∃ W3, W3 = W2 := ⟨_, rfl⟩
  go_loopg [15, 17, 55] n (fun gk v15 v17 v55 wr => ∃ (k : Nat), v55 = .int .i64 (k : Int) ∧ v15 = .bool false ∧ k + gk = n ∧ Hid (a ∉ l.take k) ∧ wr = W3)
  case atStart => exact ⟨0, rfl, rfl, by omega, Lib.hid (by simp), hW3.symm⟩
  case round =>
    obtain ⟨k, rfl, rfl, hgk, hA, hwr⟩ := hrel
    subst hW3
    subst hwr
    have HGK := Lib.hid hgk
    have hk : k ≤ n := by omega
    clear hgk
    by_cases hlt : k < n
    · have hkl : k < l.length := by have := HN.out; omega
      have hTk := List.take_succ_eq_append_getElem hkl
      have hmem : l[k] ∈ l := List.getElem_mem hkl
      obtain ⟨bb, off, rfl, hc0⟩ := (HL.out.later HBW.out).getI hkl
      generalize l[k] = m at hTk hc0 hmem
      have hk0 : (0 : Int) ≤ (k : Int) := by omega
      have hkn : (k : Int) < (n : Int) := by omega
      have hd1 : decide ((k : Int) < (n : Int)) = true := by simp; omega
      have hd2 : decide (k < n) = true := by simp; omega
      by_cases hma : m = a
      · subst hma
        have HM := Lib.hid (decide_eq_true hmem)
        have HM2 := Lib.hid hmem
        clear hTk hmem hA
        go_wp2_with fail
        refine bodyPost_ret (v := .tuple #[.agg #[.int .i64 m, .int .i64 m], .bool true]) ?_ rfl ⟨by first | rfl | rw [if_pos HM2.out, HM.out], ?_⟩
        · rw [results_cell_tmp rfl]
          go_simp
        · iterate 3 (refine Below.setCell ?_ (by simp <;> omega) _)
          exact HBW.out
      · have hbe : (m == a) = false := by simp [hma]
        have HA2 := Lib.hid (show a ∉ l.take (k + 1) by rw [hTk, List.mem_append]; rintro (h | h); exact hA.out h; exact hma (by simpa using (List.mem_singleton.1 h).symm))
        clear hTk hmem hA hma
        go_wp2_with fail
        go_roundg (n - (k + 1))
        case measure => have := HGK.out; omega
        case rel => exact ⟨k + 1, by go_num, rfl, by omega, HA2, rfl⟩
    · have hd1 : decide ((k : Int) < (n : Int)) = false := by simp; omega
      have hd2 : decide (k < n) = false := by simp; omega
      have HA2 := Lib.hid (show a ∉ l by have := hA.out; rwa [List.take_of_length_le (by have := HN.out; omega)] at this)
      clear hA
      go_wp2_with fail
      refine bodyPost_ret (v := .tuple #[.agg #[.int .i64 a, .int .i64 (-1)], .bool false]) ?_ rfl ⟨by first | rfl | rw [if_neg HA2.out, decide_eq_false HA2.out], ?_⟩
      · rw [results_cell_tmp rfl]
        go_simp
      · iterate 2 (refine Below.setCell ?_ (by simp <;> omega) _)
        exact HBW.out
end Go.Proofs.Ytiaflhlfodcbjaa
