/- What a vertex does with its mail: plain laws. No program walked. -/
import Derived.Test.YtiaflhlfodcbjaaRows
namespace Go.Proofs.Ytiaflhlfodcbjaa
def lwA (a : Int) : List Int → Int
  | [] => a
  | m :: l => if a = -1 ∨ m < a then lwA m l else lwA a l
def lwS (a : Int) (s : Bool) : List Int → Bool
  | [] => s
  | m :: l => if a = -1 ∨ m < a then lwS m true l else lwS a s l
theorem lwA_nonneg : ∀ (l : List Int) (a : Int), 0 ≤ a → (∀ m ∈ l, 0 ≤ m) → 0 ≤ lwA a l ∧ lwA a l ≤ a ∧ (∀ m ∈ l, lwA a l ≤ m) ∧ (lwA a l = a ∨ lwA a l ∈ l)
  | [], a, h, _ => ⟨h, Int.le_refl _, fun m hm => (by cases hm), .inl rfl⟩
  | m :: l, a, h, hl => by
    have hm := hl m (by simp)
    have hl' : ∀ x ∈ l, 0 ≤ x := fun x hx => hl x (by simp [hx])
    unfold lwA
    split
    · rename_i hc
      obtain ⟨h1, h2, h3, h4⟩ := lwA_nonneg l m hm hl'
      refine ⟨h1, by omega, fun x hx => ?_, ?_⟩
      · rcases List.mem_cons.1 hx with rfl | hx
        · exact h2
        · exact h3 x hx
      · rcases h4 with h4 | h4
        · right; rw [h4]; simp
        · right; simp [h4]
    · rename_i hc
      obtain ⟨h1, h2, h3, h4⟩ := lwA_nonneg l a h hl'
      refine ⟨h1, h2, fun x hx => ?_, ?_⟩
      · rcases List.mem_cons.1 hx with rfl | hx
        · omega
        · exact h3 x hx
      · rcases h4 with h4 | h4
        · left; exact h4
        · right; simp [h4]
theorem lwS_true : ∀ (l : List Int) (a : Int), lwS a true l = true
  | [], a => rfl
  | m :: l, a => by
    unfold lwS
    split
    · exact lwS_true l m
    · exact lwS_true l a
theorem lwS_eq : ∀ (l : List Int) (a : Int), 0 ≤ a → (∀ m ∈ l, 0 ≤ m) → lwS a false l = decide (lwA a l ≠ a)
  | [], a, _, _ => by simp [lwS, lwA]
  | m :: l, a, h, hl => by
    have hm := hl m (by simp)
    have hl' : ∀ x ∈ l, 0 ≤ x := fun x hx => hl x (by simp [hx])
    unfold lwS lwA
    split
    · rename_i hc
      rw [lwS_true]
      have := (lwA_nonneg l m hm hl').2.1
      have : lwA m l ≠ a := by omega
      simp [this]
    · exact lwS_eq l a h hl'
/-- of a value that is none yet, too -/
theorem lw_all (l : List Int) (a : Int) (ha : -1 ≤ a) (hl : ∀ m ∈ l, 0 ≤ m) : lwS a false l = decide (lwA a l ≠ a) ∧ -1 ≤ lwA a l ∧ (a = -1 ∨ lwA a l ≤ a) ∧ (a = -1 → l ≠ [] → lwS a false l = true) ∧ (∀ m ∈ l, lwA a l ≤ m) ∧ (lwA a l = a ∨ lwA a l ∈ l) ∧ (l ≠ [] → 0 ≤ lwA a l) := by
  by_cases h0 : 0 ≤ a
  · obtain ⟨h1, h2, h3, h4⟩ := lwA_nonneg l a h0 hl
    exact ⟨lwS_eq l a h0 hl, by omega, .inr h2, fun h => by omega, h3, h4, fun _ => h1⟩
  · obtain rfl : a = -1 := by omega
    cases l with
    | nil => exact ⟨by simp [lwS, lwA], by simp [lwA], .inl rfl, fun _ h => absurd rfl h, fun m hm => (by cases hm), .inl rfl, fun h => absurd rfl h⟩
    | cons m l =>
      have hm := hl m (by simp)
      have hl' : ∀ x ∈ l, 0 ≤ x := fun x hx => hl x (by simp [hx])
      obtain ⟨h1, h2, h3, h4⟩ := lwA_nonneg l m hm hl'
      have e1 : lwS (-1) false (m :: l) = true := by unfold lwS; rw [if_pos (Or.inl rfl)]; exact lwS_true l m
      have e2 : lwA (-1) (m :: l) = lwA m l := by show (if (-1 : Int) = -1 ∨ m < -1 then lwA m l else lwA (-1) l) = _; rw [if_pos (Or.inl rfl)]
      rw [e1, e2]
      have : lwA m l ≠ -1 := by omega
      refine ⟨by simp [this], by omega, .inl rfl, fun _ _ => rfl, fun x hx => ?_, ?_, fun _ => h1⟩
      · rcases List.mem_cons.1 hx with rfl | hx
        · exact h2
        · exact h3 x hx
      · right
        rcases h4 with h4 | h4
        · rw [h4]; simp
        · simp [h4]
/-- all that matters of the mail is its least -/
theorem lwA_least {l : List Int} {a mn : Int} (ha : -1 ≤ a) (hl : ∀ m ∈ l, 0 ≤ m) (hm : mn ∈ l) (hle : ∀ m ∈ l, mn ≤ m) : lwA a l = if a < 0 ∨ mn < a then mn else a := by
  have hne : l ≠ [] := fun e => by rw [e] at hm; cases hm
  obtain ⟨-, h2, h3, -, h5, h6, h7⟩ := lw_all l a ha hl
  have h5' := h5 mn hm
  have h7' := h7 hne
  have h0 := hl mn hm
  split
  · rename_i hc
    rcases h6 with h6 | h6
    · omega
    · have := hle _ h6; omega
  · rename_i hc
    rcases h6 with h6 | h6
    · exact h6
    · have := hle _ h6; omega
end Go.Proofs.Ytiaflhlfodcbjaa
