/- The walk of strong.wake in the phase Back. -/
import Derived.Test.YtcaolnpkpialdaaLower
namespace Go.Proofs.Ytcaolnpkpialdaa
open Go.RowKit
/-- the label that is given -/
def sbH (v a : Int) (fresh : Bool) (l : List Int) : Bool := if fresh then decide (a = v) else decide (a ∈ l)
set_option maxHeartbeats 4000000 in
set_option maxRecDepth 100000 in
theorem strong_lab (p : Option Addr) (n c : Nat) (v src a b ph : Int) (fresh : Bool) (w : World) (hb : b ≠ -1) :
    Calls Try.prog 155 #[.agg #[], .int .i64 v, .int .i64 src, .agg #[.int .i64 a, .int .i64 b], .int .i64 ph, .bool fresh, .slice p n c] w fun e w' => e = .returned (.tuple #[.agg #[.int .i64 a, .int .i64 b], .bool false]) ∧ Below w.heap.size w w' := by
  obtain ⟨b0, -, z0⟩ := boxed0 w [] 168
  obtain ⟨b1, B1, z1⟩ := boxed0 (w.alloc (.cells #[] 168)) [.int .i64 a, .int .i64 b] 49
  obtain ⟨b2, B2, z2⟩ := boxed0 ((w.alloc (.cells #[] 168)).alloc (.cells #[.int .i64 a, .int .i64 b] 49)) [.int .i64 0, .int .i64 0] 49
  have hbw := b0.trans ((b1.trans (b2.mono (by omega))).mono (by omega))
  have X1 := B1.next b2
  have e0 : (w.alloc (.cells #[] 168)).heap.size = w.heap.size + 1 := by simp
  have e1 : ((w.alloc (.cells #[] 168)).alloc (.cells #[.int .i64 a, .int .i64 b] 49)).heap.size = w.heap.size + 2 := by simp
  rw [e1] at B2 z2
  rw [e0] at X1
  obtain ⟨hx0, hx1, hf0, hf1⟩ := X1.two
  obtain ⟨hr0, hr1, hg0, hg1⟩ := B2.two
  have HBW := Lib.hid hbw
  have hbe : (b == -1) = false := by simp [hb]
  clear b0 b1 b2 B1 e1 e0 z0 z1 z2 B2 X1 hbw
  go_enter Try.func155, Try.ntmps155
  go_upto_region 1 with fail
  generalize (((w.alloc (.cells #[] 168)).alloc (.cells #[.int .i64 a, .int .i64 b] 49)).alloc (.cells #[.int .i64 0, .int .i64 0] 49)) = W2 at *
  go_wp2_with fail
  refine bodyPost_ret (v := .tuple #[.agg #[.int .i64 a, .int .i64 b], .bool false]) ?_ rfl ⟨rfl, ?_⟩
  · rw [results_cell_tmp rfl]
    go_simp
  · iterate 2 (refine Below.setCell ?_ (by simp <;> omega) _)
    exact HBW.out
set_option maxHeartbeats 4000000 in
set_option maxRecDepth 100000 in
theorem strong_fresh (p : Option Addr) (n c : Nat) (v src a : Int) (w : World) :
    Calls Try.prog 155 #[.agg #[], .int .i64 v, .int .i64 src, .agg #[.int .i64 a, .int .i64 (-1)], .int .i64 1, .bool true, .slice p n c] w fun e w' => e = .returned (.tuple #[.agg #[.int .i64 a, .int .i64 (if a = v then a else -1)], .bool (decide (a = v))]) ∧ Below w.heap.size w w' := by
  obtain ⟨b0, -, z0⟩ := boxed0 w [] 168
  obtain ⟨b1, B1, z1⟩ := boxed0 (w.alloc (.cells #[] 168)) [.int .i64 a, .int .i64 (-1)] 49
  obtain ⟨b2, B2, z2⟩ := boxed0 ((w.alloc (.cells #[] 168)).alloc (.cells #[.int .i64 a, .int .i64 (-1)] 49)) [.int .i64 0, .int .i64 0] 49
  have hbw := b0.trans ((b1.trans (b2.mono (by omega))).mono (by omega))
  have X1 := B1.next b2
  have e0 : (w.alloc (.cells #[] 168)).heap.size = w.heap.size + 1 := by simp
  have e1 : ((w.alloc (.cells #[] 168)).alloc (.cells #[.int .i64 a, .int .i64 (-1)] 49)).heap.size = w.heap.size + 2 := by simp
  rw [e1] at B2 z2
  rw [e0] at X1
  obtain ⟨hx0, hx1, hf0, hf1⟩ := X1.two
  obtain ⟨hr0, hr1, hg0, hg1⟩ := B2.two
  have HBW := Lib.hid hbw
  clear b0 b1 b2 B1 e1 e0 z0 z1 z2 B2 X1 hbw
  by_cases hav : a = v
  · have hd : decide (a = v) = true := decide_eq_true hav
    rw [if_pos hav, hd]
    have hbe : (a == v) = true := by simp [hav]
    clear hav hd
    go_enter Try.func155, Try.ntmps155
    go_upto_region 1 with fail
    generalize (((w.alloc (.cells #[] 168)).alloc (.cells #[.int .i64 a, .int .i64 (-1)] 49)).alloc (.cells #[.int .i64 0, .int .i64 0] 49)) = W2 at *
    go_wp2_with fail
    refine bodyPost_ret (v := .tuple #[.agg #[.int .i64 a, .int .i64 a], .bool true]) ?_ rfl ⟨rfl, ?_⟩
    · rw [results_cell_tmp rfl]
      go_simp
    · iterate 3 (refine Below.setCell ?_ (by simp <;> omega) _)
      exact HBW.out
  · have hd : decide (a = v) = false := decide_eq_false hav
    rw [if_neg hav, hd]
    have hbe : (a == v) = false := by simp [hav]
    clear hav hd
    go_enter Try.func155, Try.ntmps155
    go_upto_region 1 with fail
    generalize (((w.alloc (.cells #[] 168)).alloc (.cells #[.int .i64 a, .int .i64 (-1)] 49)).alloc (.cells #[.int .i64 0, .int .i64 0] 49)) = W2 at *
    go_wp2_with fail
    refine bodyPost_ret (v := .tuple #[.agg #[.int .i64 a, .int .i64 (-1)], .bool false]) ?_ rfl ⟨rfl, ?_⟩
    · rw [results_cell_tmp rfl]
      go_simp
    · iterate 2 (refine Below.setCell ?_ (by simp <;> omega) _)
      exact HBW.out
set_option maxHeartbeats 4000000 in
set_option maxRecDepth 100000 in
theorem strong_mail (p : Option Addr) (c : Nat) (v src a : Int) (l : List Int) (w : World) (hl : IsI w (.slice p l.length c) l) :
    Calls Try.prog 155 #[.agg #[], .int .i64 v, .int .i64 src, .agg #[.int .i64 a, .int .i64 (-1)], .int .i64 1, .bool false, .slice p l.length c] w fun e w' => e = .returned (.tuple #[.agg #[.int .i64 a, .int .i64 (if a ∈ l then a else -1)], .bool (decide (a ∈ l))]) ∧ Below w.heap.size w w' := by
  obtain ⟨-, hlc, hc63⟩ := hl.lens
  have HL := Lib.hid hl
  clear hl
  obtain ⟨n, hn⟩ : ∃ n, n = l.length := ⟨_, rfl⟩
  have HN := Lib.hid hn
  rw [← hn] at hlc ⊢
  clear hn
  obtain ⟨b0, -, z0⟩ := boxed0 w [] 168
  obtain ⟨b1, B1, z1⟩ := boxed0 (w.alloc (.cells #[] 168)) [.int .i64 a, .int .i64 (-1)] 49
  obtain ⟨b2, B2, z2⟩ := boxed0 ((w.alloc (.cells #[] 168)).alloc (.cells #[.int .i64 a, .int .i64 (-1)] 49)) [.int .i64 0, .int .i64 0] 49
  have hbw := b0.trans ((b1.trans (b2.mono (by omega))).mono (by omega))
  have X1 := B1.next b2
  have e0 : (w.alloc (.cells #[] 168)).heap.size = w.heap.size + 1 := by simp
  have e1 : ((w.alloc (.cells #[] 168)).alloc (.cells #[.int .i64 a, .int .i64 (-1)] 49)).heap.size = w.heap.size + 2 := by simp
  rw [e1] at B2 z2
  rw [e0] at X1
  obtain ⟨hx0, hx1, hf0, hf1⟩ := X1.two
  obtain ⟨hr0, hr1, hg0, hg1⟩ := B2.two
  have HBW := Lib.hid hbw
  have HX := Lib.hid X1
  have HR := Lib.hid B2
  clear b0 b1 b2 B1 e1 e0 z0 z1 z2 B2 X1 hbw
  go_enter Try.func155, Try.ntmps155
  go_upto_region 1 with fail
  generalize (((w.alloc (.cells #[] 168)).alloc (.cells #[.int .i64 a, .int .i64 (-1)] 49)).alloc (.cells #[.int .i64 0, .int .i64 0] 49)) = W2 at *
  go_wp2_with fail
  obtain ⟨W3, hW3⟩ : ∃ W3, W3 = W2 := ⟨_, rfl⟩
  go_loopg [15, 17, 55] n (fun gk v15 v17 v55 wr => ∃ (k : Nat), v55 = .int .i64 (k : Int) ∧ v15 = .bool false ∧ k + gk = n ∧ Hid (a ∉ l.take k) ∧ wr = W3)
  case atStart => exact ⟨0, rfl, rfl, by omega, Lib.hid (by simp), hW3.symm⟩
  case round =>
    obtain ⟨k, rfl, rfl, hgk, hA, hwr⟩ := hrel
    subst hW3
    subst hwr
    have HGK := Lib.hid hgk
    have hk : k ≤ n := by omega
    clear hgk
    by_cases hlt : k < n
    · have hkl : k < l.length := by have := HN.out; omega
      have hTk := List.take_succ_eq_append_getElem hkl
      have hmem : l[k] ∈ l := List.getElem_mem hkl
      obtain ⟨bb, off, rfl, hc0⟩ := (HL.out.later HBW.out).getI hkl
      generalize l[k] = m at hTk hc0 hmem
      have hk0 : (0 : Int) ≤ (k : Int) := by omega
      have hkn : (k : Int) < (n : Int) := by omega
      have hd1 : decide ((k : Int) < (n : Int)) = true := by simp; omega
      have hd2 : decide (k < n) = true := by simp; omega
      by_cases hma : m = a
      · subst hma
        have HM := Lib.hid (decide_eq_true hmem)
        have HM2 := Lib.hid hmem
        clear hTk hmem hA
        go_wp2_with fail
        refine bodyPost_ret (v := .tuple #[.agg #[.int .i64 m, .int .i64 m], .bool true]) ?_ rfl ⟨by first | rfl | rw [if_pos HM2.out, HM.out], ?_⟩
        · rw [results_cell_tmp rfl]
          go_simp
        · iterate 3 (refine Below.setCell ?_ (by simp <;> omega) _)
          exact HBW.out
      · have hbe : (m == a) = false := by simp [hma]
        have HA2 := Lib.hid (show a ∉ l.take (k + 1) by rw [hTk, List.mem_append]; rintro (h | h); exact hA.out h; exact hma (by simpa using (List.mem_singleton.1 h).symm))
        clear hTk hmem hA hma
        go_wp2_with fail
        go_roundg (n - (k + 1))
        case measure => have := HGK.out; omega
        case rel => exact ⟨k + 1, by go_num, rfl, by omega, HA2, rfl⟩
    · have hd1 : decide ((k : Int) < (n : Int)) = false := by simp; omega
      have hd2 : decide (k < n) = false := by simp; omega
      have HA2 := Lib.hid (show a ∉ l by have := hA.out; rwa [List.take_of_length_le (by have := HN.out; omega)] at this)
      clear hA
      go_wp2_with fail
      refine bodyPost_ret (v := .tuple #[.agg #[.int .i64 a, .int .i64 (-1)], .bool false]) ?_ rfl ⟨by first | rfl | rw [if_neg HA2.out, decide_eq_false HA2.out], ?_⟩
      · rw [results_cell_tmp rfl]
        go_simp
      · iterate 2 (refine Below.setCell ?_ (by simp <;> omega) _)
        exact HBW.out
end Go.Proofs.Ytcaolnpkpialdaa
