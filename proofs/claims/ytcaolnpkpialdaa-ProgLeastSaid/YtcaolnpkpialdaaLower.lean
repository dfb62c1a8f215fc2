/- The walk of prog.lower. -/
import Derived.Test.YtcaolnpkpialdaaBoxed
import Derived.Test.YtcaolnpkpialdaaPProg
import Derived.Deep.LoopGhost
import Derived.Deep.DeepCutAuto
import Derived.IntWalk
namespace Go.Proofs.Ytcaolnpkpialdaa
open Go.RowKit
theorem IsI.getI {w : World} {p : Option Addr} {c n : Nat} {l : List Int} (h : IsI w (.slice p n c) l) {i : Nat} (hi : i < l.length) : ∃ b off, p = some ⟨b, off, none⟩ ∧ w.cell? ⟨b, off + i, none⟩ = some (.int .i64 l[i]) := by
  have hn := h.lens.1
  subst hn
  exact h.1.get (by simp [its, hi])
def vI (a b : Int) : Value := .agg #[.int .i64 a, .int .i64 b]
set_option maxHeartbeats 2000000 in
set_option maxRecDepth 100000 in
theorem lower_ok (p : Option Addr) (c : Nat) (a b : Int) (l : List Int) (w : World) (hl : IsI w (.slice p l.length c) l) :
    Calls Try.prog 151 #[.agg #[.int .i64 a, .int .i64 b], .slice p l.length c] w fun e w' => e = .returned (.tuple #[.agg #[.int .i64 (lwA a l), .int .i64 b], .bool (lwS a false l)]) ∧ Below w.heap.size w w' := by
  obtain ⟨-, hlc, hc63⟩ := hl.lens
  have HL := Lib.hid hl
  clear hl
  obtain ⟨n, hn⟩ : ∃ n, n = l.length := ⟨_, rfl⟩
  have HN := Lib.hid hn
  rw [← hn] at hlc ⊢
  clear hn
  obtain ⟨b1, B1, z1⟩ := boxed0 w [.int .i64 a, .int .i64 b] 49
  obtain ⟨b2, B2, z2⟩ := boxed0 (w.alloc (.cells #[.int .i64 a, .int .i64 b] 49)) [.int .i64 0, .int .i64 0] 49
  have hbw := b1.trans (b2.mono (by omega))
  have X1 := B1.next b2
  have e1 : (w.alloc (.cells #[.int .i64 a, .int .i64 b] 49)).heap.size = w.heap.size + 1 := by simp
  rw [e1] at B2 z2
  clear b1 b2 B1 e1 z1 z2
  go_enter Try.func151, Try.ntmps151
  go_wp2_with fail
  generalize ((w.alloc (.cells #[.int .i64 a, .int .i64 b] 49)).alloc (.cells #[.int .i64 0, .int .i64 0] 49)) = W2 at *
  obtain ⟨wo, rfl⟩ : ∃ wo : World, wo = w := ⟨_, rfl⟩
  go_loopg [6, 8, 11] n (fun gk v6 v8 v11 wr => ∃ (k : Nat) (a' : Int) (s' : Bool), v11 = .int .i64 (k : Int) ∧ k + gk = n ∧ v6 = .bool s' ∧ Hid (lwA a l = lwA a' (l.drop k)) ∧ Hid (lwS a false l = lwS a' s' (l.drop k)) ∧ Below wo.heap.size wo wr ∧ Bx wr wo.heap.size [.int .i64 a', .int .i64 b] ∧ Bx wr (wo.heap.size + 1) [.int .i64 0, .int .i64 0])
  case atStart => exact ⟨0, a, false, rfl, by omega, rfl, Lib.hid rfl, Lib.hid rfl, hbw, X1, B2⟩
  case round =>
    clear hbw X1 B2
    obtain ⟨k, a', s', rfl, hgk, rfl, hA, hS, hb, X1, B2⟩ := hrel
    have HGK := Lib.hid hgk
    have hk : k ≤ n := by omega
    clear hgk
    have HB := Lib.hid hb
    have HX := Lib.hid X1
    have HR := Lib.hid B2
    obtain ⟨hx0, hx1, hf0, hf1⟩ := X1.two
    obtain ⟨hr0, hr1, hg0, hg1⟩ := B2.two
    clear X1 B2 hb
    by_cases hlt : k < n
    · have hkl : k < l.length := by have := HN.out; omega
      have hdr := List.drop_eq_getElem_cons hkl
      obtain ⟨bb, off, rfl, hc0⟩ := (HL.out.later HB.out).getI hkl
      generalize l[k] = m at hdr hc0
      have hk0 : (0 : Int) ≤ (k : Int) := by omega
      have hkn : (k : Int) < (n : Int) := by omega
      have hd1 : decide ((k : Int) < (n : Int)) = true := by simp; omega
      have hd2 : decide (k < n) = true := by simp; omega
      by_cases hc1 : a' = -1
      · have hA2 : lwA a l = lwA m (l.drop (k + 1)) := by rw [hA.out, hdr]; show (if a' = -1 ∨ m < a' then _ else _) = _; rw [if_pos (Or.inl hc1)]
        have hS2 : lwS a false l = lwS m true (l.drop (k + 1)) := by rw [hS.out, hdr]; show (if a' = -1 ∨ m < a' then _ else _) = _; rw [if_pos (Or.inl hc1)]
        have HA2 := Lib.hid hA2
        have HS2 := Lib.hid hS2
        subst hc1
        clear hdr hA2 hS2 hA hS
        go_wp2_with fail
        go_roundg (n - (k + 1))
        case measure => have := HGK.out; omega
        case rel => exact ⟨k + 1, m, true, by go_num, by omega, rfl, HA2, HS2, HB.out.setCell (Nat.le_refl _) _, HX.out.setc 0 _, bx_oth HR.out (by simp) _⟩
      · by_cases hc2 : m < a'
        · have hA2 : lwA a l = lwA m (l.drop (k + 1)) := by rw [hA.out, hdr]; show (if a' = -1 ∨ m < a' then _ else _) = _; rw [if_pos (Or.inr hc2)]
          have hS2 : lwS a false l = lwS m true (l.drop (k + 1)) := by rw [hS.out, hdr]; show (if a' = -1 ∨ m < a' then _ else _) = _; rw [if_pos (Or.inr hc2)]
          have HA2 := Lib.hid hA2
          have HS2 := Lib.hid hS2
          have he : (a' == -1) = false := by simp [hc1]
          have hd : decide (m < a') = true := decide_eq_true hc2
          clear hdr hA2 hS2 hA hS hc1 hc2
          go_wp2_with fail
          go_roundg (n - (k + 1))
          case measure => have := HGK.out; omega
          case rel => exact ⟨k + 1, m, true, by go_num, by omega, rfl, HA2, HS2, HB.out.setCell (Nat.le_refl _) _, HX.out.setc 0 _, bx_oth HR.out (by simp) _⟩
        · have hA2 : lwA a l = lwA a' (l.drop (k + 1)) := by rw [hA.out, hdr]; show (if a' = -1 ∨ m < a' then _ else _) = _; rw [if_neg (by omega)]
          have hS2 : lwS a false l = lwS a' s' (l.drop (k + 1)) := by rw [hS.out, hdr]; show (if a' = -1 ∨ m < a' then _ else _) = _; rw [if_neg (by omega)]
          have HA2 := Lib.hid hA2
          have HS2 := Lib.hid hS2
          have he : (a' == -1) = false := by simp [hc1]
          have hd : decide (m < a') = false := decide_eq_false hc2
          clear hdr hA2 hS2 hA hS hc1 hc2
          go_wp2_with fail
          go_roundg (n - (k + 1))
          case measure => have := HGK.out; omega
          case rel => exact ⟨k + 1, a', s', by go_num, by omega, rfl, HA2, HS2, HB.out, HX.out, HR.out⟩
    · have hd1 : decide ((k : Int) < (n : Int)) = false := by simp; omega
      have hd2 : decide (k < n) = false := by simp; omega
      have hA2 : lwA a l = a' := by rw [hA.out, List.drop_of_length_le (by have := HN.out; omega)]; rfl
      have hS2 : lwS a false l = s' := by rw [hS.out, List.drop_of_length_le (by have := HN.out; omega)]; rfl
      have HA2 := Lib.hid hA2
      have HS2 := Lib.hid hS2
      clear hA hS hA2 hS2
      go_wp2_with fail
      refine bodyPost_ret (v := .tuple #[.agg #[.int .i64 a', .int .i64 b], .bool s']) ?_ rfl ⟨by rw [HA2.out, HS2.out], ?_⟩
      · rw [results_cell_tmp rfl]
        go_simp
      · iterate 2 (refine Below.setCell ?_ (by simp <;> omega) _)
        exact HB.out
end Go.Proofs.Ytcaolnpkpialdaa
