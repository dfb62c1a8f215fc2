/- Reading mail. -/
import Derived.Test.YtiaflhlfodcbjaaOwn3
import Derived.Test.YtiaflhlfodcbjaaRead
import Derived.Test.YtiaflhlfodcbjaaPGraph
namespace Go.Proofs.Ytiaflhlfodcbjaa
open Go.RowKit
/-- mail as cells -/
def mcs (l : List (Nat × Nat)) : List Value := l.flatMap fun m => [Value.int .i64 (m.1 : Int), Value.int .i64 (m.2 : Int)]
theorem mcs_snoc (l : List (Nat × Nat)) (m : Nat × Nat) : mcs (l ++ [m]) = mcs l ++ [Value.int .i64 (m.1 : Int), Value.int .i64 (m.2 : Int)] := by simp [mcs]
theorem mcs_append (l r : List (Nat × Nat)) : mcs (l ++ r) = mcs l ++ mcs r := by simp [mcs]
theorem mcs_len (l : List (Nat × Nat)) : (mcs l).length = l.length * 2 := by
  induction l with
  | nil => rfl
  | cons a l ih => show ([_, _] ++ mcs l).length = _; rw [List.length_append, ih, List.length_cons]; simp; omega
theorem mcs_one (l : List (Nat × Nat)) : ∀ u ∈ mcs l, u.oneCell' = true := by
  intro u hu
  obtain ⟨x, _, h⟩ := List.mem_flatMap.1 hu
  simp at h
  rcases h with rfl | rfl <;> rfl
end Go.Proofs.Ytiaflhlfodcbjaa
namespace Go.Proofs.Ytiaflhlfodcbjaa
open Go.RowKit
theorem mcs_enc (l : List (Nat × Nat)) : mcs l = l.flatMap encM := rfl
theorem mcs_at {l : List (Nat × Nat)} {i : Nat} (h : i < l.length) : (mcs l)[i * 2]? = some (.int .i64 (l[i].1 : Int)) ∧ (mcs l)[i * 2 + 1]? = some (.int .i64 (l[i].2 : Int)) := by
  induction l generalizing i with
  | nil => simp at h
  | cons a l ih =>
    cases i with
    | zero => exact ⟨rfl, rfl⟩
    | succ i =>
      have := ih (i := i) (by simpa using h)
      rw [show (i + 1) * 2 = i * 2 + 1 + 1 from by omega]
      exact this
/-- the two cells of a piece of mail -/
theorem Sl.mail {w : World} {p : Option Addr} {c n : Nat} {l : List (Nat × Nat)} (h : Sl w 2 (.slice p n c) n (mcs l)) {i : Nat} (hi : i < l.length) : ∃ b off, p = some ⟨b, off, none⟩ ∧ w.cell? ⟨b, off + i * 2, none⟩ = some (.int .i64 (l[i].1 : Int)) ∧ w.cell? ⟨b, off + i * 2 + 1, none⟩ = some (.int .i64 (l[i].2 : Int)) := by
  obtain ⟨h0, h1⟩ := mcs_at hi
  obtain ⟨b, off, rfl, c0⟩ := h.get h0
  obtain ⟨b', off', he, c1⟩ := h.get h1
  cases he
  rw [← Nat.add_assoc] at c1
  exact ⟨b, off, rfl, c0, c1⟩
theorem Sl.mlen {w : World} {p : Option Addr} {c n : Nat} {l : List (Nat × Nat)} (h : Sl w 2 (.slice p n c) n (mcs l)) : n = l.length ∧ n ≤ c ∧ c ≤ 9223372036854775807 := by
  obtain ⟨p', c', hp, h1, h2, h3, _⟩ := h
  cases hp
  rw [mcs_len] at h3
  exact ⟨by omega, h1, by unfold maxLen at h2; omega⟩
end Go.Proofs.Ytiaflhlfodcbjaa
