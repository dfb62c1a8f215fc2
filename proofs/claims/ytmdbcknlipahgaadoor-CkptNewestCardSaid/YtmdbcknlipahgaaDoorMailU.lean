/- Mail in memory; pacelinekeep.sorted. -/
import Derived.Test.YtmdbcknlipahgaaDoorSfM
import Derived.Deep.LoopGhost
import Derived.Deep.DeepCutAuto
import Derived.IntWalk
namespace Go.Proofs.YtmdbcknlipahgaaDoor
open Go.RowKit
theorem mcs_at {l : List (Nat × Nat)} {i : Nat} (h : i < l.length) : (mcs l)[i * 2]? = some (.int .i64 (l[i].1 : Int)) ∧ (mcs l)[i * 2 + 1]? = some (.int .i64 (l[i].2 : Int)) := by
  induction l generalizing i with
  | nil => simp at h
  | cons a l ih =>
    cases i with
    | zero => exact ⟨rfl, rfl⟩
    | succ i =>
      have := ih (i := i) (by simpa using h)
      rw [show (i + 1) * 2 = i * 2 + 1 + 1 from by omega]
      exact this
/-- the two cells of a piece of mail -/
theorem Sl.mail {w : World} {p : Option Addr} {c n : Nat} {l : List (Nat × Nat)} (h : Sl w 2 (.slice p n c) n (mcs l)) {i : Nat} (hi : i < l.length) : ∃ b off, p = some ⟨b, off, none⟩ ∧ w.cell? ⟨b, off + i * 2, none⟩ = some (.int .i64 (l[i].1 : Int)) ∧ w.cell? ⟨b, off + i * 2 + 1, none⟩ = some (.int .i64 (l[i].2 : Int)) := by
  obtain ⟨h0, h1⟩ := mcs_at hi
  obtain ⟨b, off, rfl, c0⟩ := h.get h0
  obtain ⟨b', off', he, c1⟩ := h.get h1
  cases he
  rw [← Nat.add_assoc] at c1
  exact ⟨b, off, rfl, c0, c1⟩
theorem Sl.mlen {w : World} {p : Option Addr} {c n : Nat} {l : List (Nat × Nat)} (h : Sl w 2 (.slice p n c) n (mcs l)) : n = l.length ∧ n ≤ c ∧ c ≤ 9223372036854775807 := by
  obtain ⟨p', c', hp, h1, h2, h3, _⟩ := h
  cases hp
  rw [mcs_len] at h3
  exact ⟨by omega, h1, by unfold maxLen at h2; omega⟩
set_option maxHeartbeats 1000000 in
set_option maxRecDepth 100000 in
theorem sorted_ok (n c : Nat) (p : Option Addr) (l : List (Nat × Nat)) (w : World) (h : Sl w 2 (.slice p n c) n (mcs l)) (hn : n ≤ 5000) :
    Calls Tryd.prog 38 #[.slice p n c] w fun e w' => ∃ p' c', e = .returned (.tuple #[.slice p' n c', .bool true]) ∧ w'.ownsRow w.heap.size 103 2 (.slice p' n c') n (mcs (srt cfM l)) ∧ Below w.heap.size w w' := by
  have HS := Lib.hid (sortM_ok n c p l w h hn)
  clear h
  go_enter Tryd.func38, Tryd.ntmps38
  go_wp2_with fail
  refine HS.out.mono ?_; rintro e w1 ⟨p1, c1, rfl, ho1, hb1⟩
  go_wp2_with fail
  go_ret2
  exact ⟨p1, c1, rfl, ho1, hb1⟩
end Go.Proofs.YtmdbcknlipahgaaDoor
