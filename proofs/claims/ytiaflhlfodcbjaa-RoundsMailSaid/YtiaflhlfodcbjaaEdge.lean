/- Edges as cells; a graph's raw numbers. -/
import Derived.Test.YtiaflhlfodcbjaaCloneE
import Derived.Test.YtiaflhlfodcbjaaBoxed
import Derived.Test.YtiaflhlfodcbjaaRead
import Derived.Test.YtiaflhlfodcbjaaPick
import Derived.Test.YtiaflhlfodcbjaaPGraph
import Derived.Deep.LoopGhost
import Derived.Deep.DeepCutAuto
import Derived.StillTailTactics
import Derived.Laws.ResultCell
namespace Go.Proofs.Ytiaflhlfodcbjaa
open Go.RowKit
def encE (e : Eg) : List Value := [.int .i64 (e.1 : Int), .int .i64 (e.2.1 : Int), .int .i64 (e.2.2 : Int)]
def ecs (l : List Eg) : List Value := l.flatMap encE
theorem ecs_snoc (l : List Eg) (e : Eg) : ecs (l ++ [e]) = ecs l ++ encE e := by simp [ecs]
theorem ecs_append (l r : List Eg) : ecs (l ++ r) = ecs l ++ ecs r := by simp [ecs]
theorem ecs_len (l : List Eg) : (ecs l).length = l.length * 3 := by
  induction l with
  | nil => rfl
  | cons a l ih => show (encE a ++ ecs l).length = _; rw [List.length_append, ih, List.length_cons]; simp [encE]; omega
theorem ecs_one (l : List Eg) : ∀ u ∈ ecs l, u.oneCell' = true := by
  intro u hu
  obtain ⟨x, _, h⟩ := List.mem_flatMap.1 hu
  simp [encE] at h
  rcases h with rfl | rfl | rfl <;> rfl
def edgeOf (N : Nat) (r : List Int) : Eg := (pickN (r.getD 0 0) N, pickN (r.getD 1 0) N, pickN (r.getD 2 0) 10)
def edgesL (N : Nat) (raw : List (List Int)) : List Eg := (raw.take 10).map (edgeOf N)
theorem edgesL_in (N : Nat) (raw : List (List Int)) (hN : 1 ≤ N) : InG N (edgesL N raw) := by
  intro e he
  obtain ⟨r, _, rfl⟩ := List.mem_map.1 he
  exact ⟨pickN_lt _ hN, pickN_lt _ hN, pickN_lt _ (by decide)⟩
theorem edgesL_len (N : Nat) (raw : List (List Int)) : (edgesL N raw).length ≤ 10 := by
  unfold edgesL; rw [List.length_map]; exact List.length_take_le _ _
theorem ecs_at {l : List Eg} {i : Nat} (h : i < l.length) : (ecs l)[i * 3]? = some (.int .i64 (l[i].1 : Int)) ∧ (ecs l)[i * 3 + 1]? = some (.int .i64 (l[i].2.1 : Int)) ∧ (ecs l)[i * 3 + 1 + 1]? = some (.int .i64 (l[i].2.2 : Int)) := by
  induction l generalizing i with
  | nil => simp at h
  | cons a l ih =>
    cases i with
    | zero => exact ⟨rfl, rfl, rfl⟩
    | succ i =>
      have := ih (i := i) (by simpa using h)
      rw [show (i + 1) * 3 = i * 3 + 1 + 1 + 1 from by omega]
      exact this
/-- the three cells of an edge -/
theorem Sl.edge {w : World} {p : Option Addr} {c n : Nat} {l : List Eg} (h : Sl w 3 (.slice p n c) n (ecs l)) {i : Nat} (hi : i < l.length) : ∃ b off, p = some ⟨b, off, none⟩ ∧ w.cell? ⟨b, off + i * 3, none⟩ = some (.int .i64 (l[i].1 : Int)) ∧ w.cell? ⟨b, off + i * 3 + 1, none⟩ = some (.int .i64 (l[i].2.1 : Int)) ∧ w.cell? ⟨b, off + i * 3 + 1 + 1, none⟩ = some (.int .i64 (l[i].2.2 : Int)) := by
  obtain ⟨h0, h1, h2⟩ := ecs_at hi
  obtain ⟨b, off, rfl, c0⟩ := h.get h0
  obtain ⟨b', off', he, c1⟩ := h.get h1
  cases he
  obtain ⟨b', off', he, c2⟩ := h.get h2
  cases he
  exact ⟨b, off, rfl, c0, c1, c2⟩
theorem Sl.elen {w : World} {p : Option Addr} {c n : Nat} {l : List Eg} (h : Sl w 3 (.slice p n c) n (ecs l)) : n = l.length ∧ n ≤ c ∧ c ≤ 9223372036854775807 := by
  obtain ⟨p', c', hp, h1, h2, h3, _⟩ := h
  cases hp
  rw [ecs_len] at h3
  exact ⟨by omega, h1, by unfold maxLen at h2; omega⟩
end Go.Proofs.Ytiaflhlfodcbjaa
