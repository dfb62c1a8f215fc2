/- The walks of pacelinekeep.sorted and pacelinekeep.times. -/
import Derived.Test.YtfecpifhfihikaaSfM
import Derived.Deep.LoopGhost
import Derived.Deep.DeepCutAuto
import Derived.IntWalk
namespace Go.Proofs.Ytfecpifhfihikaa
open Go.RowKit
theorem mcs_at {l : List (Nat × Nat)} {i : Nat} (h : i < l.length) : (mcs l)[i * 2]? = some (.int .i64 (l[i].1 : Int)) ∧ (mcs l)[i * 2 + 1]? = some (.int .i64 (l[i].2 : Int)) := by
  induction l generalizing i with
  | nil => simp at h
  | cons a l ih =>
    cases i with
    | zero => exact ⟨rfl, rfl⟩
    | succ i =>
      have := ih (i := i) (by simpa using h)
      rw [show (i + 1) * 2 = i * 2 + 1 + 1 from by omega]
      exact this
/-- the two cells of a piece of mail -/
theorem Sl.mail {w : World} {p : Option Addr} {c n : Nat} {l : List (Nat × Nat)} (h : Sl w 2 (.slice p n c) n (mcs l)) {i : Nat} (hi : i < l.length) : ∃ b off, p = some ⟨b, off, none⟩ ∧ w.cell? ⟨b, off + i * 2, none⟩ = some (.int .i64 (l[i].1 : Int)) ∧ w.cell? ⟨b, off + i * 2 + 1, none⟩ = some (.int .i64 (l[i].2 : Int)) := by
  obtain ⟨h0, h1⟩ := mcs_at hi
  obtain ⟨b, off, rfl, c0⟩ := h.get h0
  obtain ⟨b', off', he, c1⟩ := h.get h1
  cases he
  rw [← Nat.add_assoc] at c1
  exact ⟨b, off, rfl, c0, c1⟩
theorem Sl.mlen {w : World} {p : Option Addr} {c n : Nat} {l : List (Nat × Nat)} (h : Sl w 2 (.slice p n c) n (mcs l)) : n = l.length ∧ n ≤ c ∧ c ≤ 9223372036854775807 := by
  obtain ⟨p', c', hp, h1, h2, h3, _⟩ := h
  cases hp
  rw [mcs_len] at h3
  exact ⟨by omega, h1, by unfold maxLen at h2; omega⟩
set_option maxHeartbeats 1000000 in
set_option maxRecDepth 100000 in
theorem sorted_ok (n c : Nat) (p : Option Addr) (l : List (Nat × Nat)) (w : World) (h : Sl w 2 (.slice p n c) n (mcs l)) (hn : n ≤ 5000) :
    Calls Try.prog 5 #[.slice p n c] w fun e w' => ∃ p' c', e = .returned (.tuple #[.slice p' n c', .bool true]) ∧ w'.ownsRow w.heap.size 31 2 (.slice p' n c') n (mcs (srt cfM l)) ∧ Below w.heap.size w w' := by
  have HS := Lib.hid (sortM_ok n c p l w h hn)
  clear h
  go_enter Try.func5, Try.ntmps5
  go_wp2_with fail
  refine HS.out.mono ?_; rintro e w1 ⟨p1, c1, rfl, ho1, hb1⟩
  go_wp2_with fail
  go_ret2
  exact ⟨p1, c1, rfl, ho1, hb1⟩
set_option maxHeartbeats 2000000 in
set_option maxRecDepth 100000 in
theorem times_ok (n c : Nat) (p : Option Addr) (l : List (Nat × Nat)) (m : Nat × Nat) (w : World) (h : Sl w 2 (.slice p n c) n (mcs l)) (hn : n ≤ 100000) :
    Calls Try.prog 8 #[.slice p n c, .agg #[.int .i64 (m.1 : Int), .int .i64 (m.2 : Int)]] w fun e w' => e = .returned (.int .i64 ((l.count m : Nat) : Int)) ∧ Below w.heap.size w w' := by
  obtain ⟨hln, hnc, hc63⟩ := h.mlen
  have HL := Lib.hid h
  have HLN := Lib.hid hln
  clear h hln
  obtain ⟨m1, m2⟩ := m
  dsimp only
  have B0 := bx_new w [.int .i64 (m1 : Int), .int .i64 (m2 : Int)] 31
  have hW := (Below.refl w.heap.size w).alloc (Nat.le_refl _) (.cells #[.int .i64 (m1 : Int), .int .i64 (m2 : Int)] 31)
  go_enter Try.func8, Try.ntmps8
  go_wp2_with fail
  generalize hWe : w.alloc (.cells #[.int .i64 (m1 : Int), .int .i64 (m2 : Int)] 31) = W at *
  have hsz : w.heap.size + 1 = W.heap.size := by rw [← hWe]; simp
  have HSZ := Lib.hid hsz
  clear hWe hsz
  go_loopg [5, 6] n (fun gk v5 v6 wr => ∃ k : Nat, v6 = .int .i64 (k : Int) ∧ k + gk = n ∧ v5 = .int .i64 (((l.take k).count (m1, m2) : Nat) : Int) ∧ Below w.heap.size w wr ∧ Bx wr w.heap.size [.int .i64 (m1 : Int), .int .i64 (m2 : Int)])
  case atStart => exact ⟨0, rfl, by omega, rfl, hW, B0⟩
  case round =>
    clear B0 hW
    obtain ⟨k, rfl, hgk, rfl, hb, B0⟩ := hrel
    have HGK := Lib.hid hgk
    have hk : k ≤ n := by omega
    clear hgk
    by_cases hlt : k < n
    · have hkl : k < l.length := by have := HLN.out; omega
      have hTk := List.take_succ_eq_append_getElem hkl
      obtain ⟨b, off, rfl, hc0, hc1⟩ := (HL.out.later hb).mail hkl
      generalize l[k] = x at hTk hc0 hc1
      obtain ⟨x1, x2⟩ := x
      dsimp only at hc0 hc1
      have hcl : (l.take k).count (m1, m2) ≤ 100000 := by have := List.count_le_length (a := (m1, m2)) (l := l.take k); have := List.length_take_le k l; omega
      have hcnt : (l.take (k + 1)).count (m1, m2) = (l.take k).count (m1, m2) + if x1 = m1 ∧ x2 = m2 then 1 else 0 := by
        rw [hTk, List.count_append, List.count_singleton]
        by_cases h : x1 = m1 ∧ x2 = m2
        · obtain ⟨rfl, rfl⟩ := h; simp
        · rw [if_neg h]
          have : ((x1, x2) == (m1, m2)) = false := by
            rw [beq_eq_false_iff_ne]; intro e; cases e; exact h ⟨rfl, rfl⟩
          rw [this]; rfl
      have HCNT := Lib.hid hcnt
      clear hTk hcnt
      obtain ⟨hB0, hB1, _, _⟩ := B0.two
      have HB0 := Lib.hid B0
      clear B0
      have hk0 : (0 : Int) ≤ (k : Int) := by omega
      have hkn : (k : Int) < (n : Int) := by omega
      have hd1 : decide ((k : Int) < (n : Int)) = true := by simp; omega
      have hd2 : decide (k < n) = true := by simp; omega
      generalize (l.take k).count (m1, m2) = q at *
      go_upto_region 5 with fail
      go_cut [18] (fun s18 wx => s18 = .bool (decide (x1 = m1 ∧ x2 = m2)) ∧ Below wr.heap.size wr wx)
      case first =>
        by_cases h1 : x1 = m1
        · by_cases h2 : x2 = m2
          · subst h1 h2
            go_quiet (fail)
            go_wp2_with fail
            go_meet
            case rel => exact ⟨by simp, below_drewN (Below.refl _ wr) _⟩
          · have he : ((x2 : Int) == (m2 : Int)) = false := by simp; omega
            subst h1
            go_quiet (fail)
            go_wp2_with fail
            go_meet
            case rel => exact ⟨by simp [h2], below_drewN (Below.refl _ wr) _⟩
        · have he : ((x1 : Int) == (m1 : Int)) = false := by simp; omega
          go_quiet (fail)
          go_wp2_with fail
          go_meet
          case rel => exact ⟨by simp [h1], below_drewN (Below.refl _ wr) _⟩
      case rest =>
        obtain ⟨rfl, hcw⟩ := hcut
        have hbz := hb.trans (hcw.mono hb.size)
        have BZ := HB0.out.later hcw HB0.out.lt
        clear hc0 hc1 hB0 hB1
        by_cases h : x1 = m1 ∧ x2 = m2
        · have e : decide (x1 = m1 ∧ x2 = m2) = true := decide_eq_true h
          rw [e]
          go_wp2_with fail
          go_roundg (n - (k + 1))
          case measure => have := HGK.out; omega
          case rel => exact ⟨k + 1, by go_num, by omega, by rw [HCNT.out, if_pos h]; go_num, hbz, BZ⟩
        · have e : decide (x1 = m1 ∧ x2 = m2) = false := decide_eq_false h
          rw [e]
          go_wp2_with fail
          go_roundg (n - (k + 1))
          case measure => have := HGK.out; omega
          case rel => exact ⟨k + 1, by go_num, by omega, by rw [HCNT.out, if_neg h]; rfl, hbz, BZ⟩
    · have hd1 : decide ((k : Int) < (n : Int)) = false := by simp; omega
      have hd2 : decide (k < n) = false := by simp; omega
      go_wp2_with fail
      go_ret
      exact ⟨by rw [List.take_of_length_le (by have := HLN.out; omega)]; rfl, hb⟩
end Go.Proofs.Ytfecpifhfihikaa
