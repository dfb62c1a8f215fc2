/- Moves: what is shown and read: plain laws. No program walked. -/
import Derived.Test.YtmdbcknlipahgaaDoorPText
import Derived.Lib.AtoiAllCases
namespace Go.Proofs.YtmdbcknlipahgaaDoor
open Go.Lib
/-- a move: kind, at, keep -/
abbrev Mv := Int × Int × Int
/-- form of a kind (from 0): word, at, keep -/
def formF : Nat → List UInt8 × Bool × Bool
  | 0 => ([119, 111, 114, 107], true, false)
  | 1 => ([99, 97, 114, 114, 121], true, false)
  | 2 => ([108, 111, 115, 101], true, false)
  | 3 => ([100, 111, 117, 98, 108, 101], true, false)
  | 4 => ([97, 108, 108], false, false)
  | 5 => ([99, 114, 97, 115, 104], true, true)
  | 6 => ([115, 116, 97, 114, 116], true, false)
  | _ => ([108, 101, 97, 100], false, false)
/-- whether a number is refused -/
def badN (has : Bool) (n : Int) : Prop := n < 0 ∨ 1152921504606846976 < n ∨ (has = false ∧ n ≠ 0)
instance (has : Bool) (n : Int) : Decidable (badN has n) := by unfold badN; infer_instance
def partL (has : Bool) (n : Int) : List UInt8 := if has then 32 :: itoa n else []
/-- what line answers -/
def lineM (m : Mv) : List UInt8 × Int :=
  if m.1 < 1 ∨ 8 < m.1 then ([], 3)
  else if badN (formF (m.1 - 1).toNat).2.1 m.2.1 ∨ badN (formF (m.1 - 1).toNat).2.2 m.2.2 then ([], 2)
  else ((formF (m.1 - 1).toNat).1 ++ partL (formF (m.1 - 1).toNat).2.1 m.2.1 ++ partL (formF (m.1 - 1).toNat).2.2 m.2.2 ++ [10], 0)
/-- what a word says as a number -/
def atV (w : List UInt8) : Int := match atoiAll w with
  | .ok v => v
  | .range => atoiSat w
  | _ => 0
/-- the kind of a word, among the first k -/
def kindUp (w : List UInt8) : Nat → Int
  | 0 => 0
  | k + 1 => if (formF k).1 = w then (k : Int) + 1 else kindUp w k
/-- what the words behind the first say: the first is At, the last of the others Keep -/
def numsUp (ws : List (List UInt8)) : Nat → Int × Int
  | 0 => (0, 0)
  | k + 1 => if k = 0 then (atV (ws.getD k []), (numsUp ws k).2) else ((numsUp ws k).1, atV (ws.getD k []))
def moveW : List (List UInt8) → Mv
  | [] => (0, 0, 0)
  | w :: ws => (kindUp w 8, numsUp ws ws.length)
/-- what move answers -/
def moveM (l : List UInt8) : Mv := moveW (split (trimSuffix l [10]) [32])
theorem atV_bd (w : List UInt8) : -9223372036854775808 ≤ atV w ∧ atV w ≤ 9223372036854775807 := by
  unfold atV
  split
  · rename_i v h; obtain ⟨h1, h2⟩ := atoiAll_bounds h; exact ⟨by omega, by omega⟩
  · unfold atoiSat; split <;> exact ⟨by decide, by decide⟩
  · exact ⟨by decide, by decide⟩
theorem numsUp_bd (ws : List (List UInt8)) : ∀ k, (-9223372036854775808 ≤ (numsUp ws k).1 ∧ (numsUp ws k).1 ≤ 9223372036854775807) ∧ (-9223372036854775808 ≤ (numsUp ws k).2 ∧ (numsUp ws k).2 ≤ 9223372036854775807)
  | 0 => ⟨⟨by unfold numsUp; decide, by unfold numsUp; decide⟩, ⟨by unfold numsUp; decide, by unfold numsUp; decide⟩⟩
  | k + 1 => by
    have ih := numsUp_bd ws k
    have h := atV_bd (ws.getD k [])
    unfold numsUp
    split
    · exact ⟨h, ih.2⟩
    · exact ⟨ih.1, h⟩
theorem kindUp_bd (w : List UInt8) : ∀ k, 0 ≤ kindUp w k ∧ kindUp w k ≤ k
  | 0 => ⟨Int.le_refl _, Int.le_refl _⟩
  | k + 1 => by
    have ih := kindUp_bd w k
    unfold kindUp
    split <;> omega
/-- a move's numbers are numbers -/
def MvIn (m : Mv) : Prop := (-9223372036854775808 ≤ m.1 ∧ m.1 ≤ 9223372036854775807) ∧ (-9223372036854775808 ≤ m.2.1 ∧ m.2.1 ≤ 9223372036854775807) ∧ (-9223372036854775808 ≤ m.2.2 ∧ m.2.2 ≤ 9223372036854775807)
theorem moveM_in (l : List UInt8) : MvIn (moveM l) := by
  unfold moveM MvIn
  cases split (trimSuffix l [10]) [32] with
  | nil => exact ⟨⟨by decide, by decide⟩, ⟨by decide, by decide⟩, ⟨by decide, by decide⟩⟩
  | cons w ws =>
    have h1 := kindUp_bd w 8
    exact ⟨⟨by show _ ≤ kindUp w 8; omega, by show kindUp w 8 ≤ _; omega⟩, numsUp_bd ws ws.length⟩
/-- a move that has a line -/
def OkM (m : Mv) : Prop := (lineM m).2 = 0
instance (m : Mv) : Decidable (OkM m) := by unfold OkM; infer_instance
theorem ok_parts {m : Mv} (h : OkM m) : 1 ≤ m.1 ∧ m.1 ≤ 8 ∧ ¬ badN (formF (m.1 - 1).toNat).2.1 m.2.1 ∧ ¬ badN (formF (m.1 - 1).toNat).2.2 m.2.2 ∧
    (lineM m).1 = (formF (m.1 - 1).toNat).1 ++ partL (formF (m.1 - 1).toNat).2.1 m.2.1 ++ partL (formF (m.1 - 1).toNat).2.2 m.2.2 ++ [10] := by
  unfold OkM lineM at h
  split at h
  · cases h
  · rename_i h1
    split at h
    · cases h
    · rename_i h2
      refine ⟨by omega, by omega, fun e => h2 (.inl e), fun e => h2 (.inr e), ?_⟩
      unfold lineM
      rw [if_neg h1, if_neg h2]
theorem form_dig (k : Nat) : ∀ b ∈ (formF k).1, 97 ≤ b.toNat := by
  unfold formF
  split <;> decide
theorem form_len (k : Nat) : 3 ≤ (formF k).1.length ∧ (formF k).1.length ≤ 6 := by
  unfold formF
  split <;> decide
theorem part_len (has : Bool) {n : Int} (h : ¬ badN has n) : (partL has n).length ≤ 20 := by
  unfold badN at h
  unfold partL
  split
  · have := itoa_len (n := n) (by omega) 19 (by omega) (by omega)
    simp; omega
  · simp
theorem line_len50 {m : Mv} (h : OkM m) : (lineM m).1.length ≤ 47 := by
  obtain ⟨_, _, h3, h4, h5⟩ := ok_parts h
  have h6 := form_len (m.1 - 1).toNat
  have h7 := part_len _ h3
  have h8 := part_len _ h4
  rw [h5]
  simp only [List.length_append, List.length_cons, List.length_nil]
  omega
theorem itoa_no {n : Int} (h : 0 ≤ n) : ∀ b ∈ itoa n, b ≠ 10 ∧ b ≠ 32 := by
  intro b hb
  have := (itoa_dig h).1 b hb
  exact ⟨fun e => by rw [e] at this; simp at this, fun e => by rw [e] at this; simp at this⟩
theorem form_no (k : Nat) : ∀ b ∈ (formF k).1, b ≠ 10 ∧ b ≠ 32 := by
  intro b hb
  have := form_dig k b hb
  exact ⟨fun e => by rw [e] at this; simp at this, fun e => by rw [e] at this; simp at this⟩
theorem part_no (has : Bool) {n : Int} (h : ¬ badN has n) : ∀ b ∈ partL has n, b ≠ 10 := by
  unfold badN at h
  unfold partL
  split
  · intro b hb
    rcases List.mem_cons.1 hb with rfl | hb
    · decide
    · exact (itoa_no (by omega) b hb).1
  · intro b hb; cases hb
theorem line_no {m : Mv} (h : OkM m) : ∃ b, (lineM m).1 = b ++ [10] ∧ ∀ x ∈ b, x ≠ 10 := by
  obtain ⟨_, _, h3, h4, h5⟩ := ok_parts h
  refine ⟨_, h5, fun x hx => ?_⟩
  rcases List.mem_append.1 hx with hx | hx
  · rcases List.mem_append.1 hx with hx | hx
    · exact (form_no _ x hx).1
    · exact part_no _ h3 x hx
  · exact part_no _ h4 x hx
theorem kind_form : ∀ k, k < 8 → kindUp (formF k).1 8 = (k : Int) + 1
  | 0, _ => by decide
  | 1, _ => by decide
  | 2, _ => by decide
  | 3, _ => by decide
  | 4, _ => by decide
  | 5, _ => by decide
  | 6, _ => by decide
  | 7, _ => by decide
  | k + 8, h => by omega
theorem atV_itoa {n : Int} (h0 : 0 ≤ n) (h1 : n ≤ 1152921504606846976) : atV (itoa n) = n := by
  unfold atV
  rw [atoi_itoa h0 (by omega)]
theorem keep_at (k : Nat) (h : (formF k).2.1 = false) : (formF k).2.2 = false := by
  revert h
  unfold formF
  split <;> decide
/-- a move is read as it was shown -/
theorem move_line {m : Mv} (h : OkM m) : moveM (lineM m).1 = m := by
  obtain ⟨h1, h2, h3, h4, h5⟩ := ok_parts h
  obtain ⟨a, b, c⟩ := m
  dsimp only at h1 h2 h3 h4 h5
  obtain ⟨k, hk⟩ : ∃ k, k = (a - 1).toNat := ⟨_, rfl⟩
  have ha : a = (k : Int) + 1 := by omega
  have hk8 : k < 8 := by omega
  unfold moveM
  rw [h5, trim_end, ← hk]
  rw [← hk] at h3 h4
  have hw := fun x hx => (form_no k x hx).2
  have hkf := kind_form k hk8
  unfold badN at h3 h4
  unfold partL
  by_cases e1 : (formF k).2.1 = true
  · rw [if_pos e1]
    have hb := fun x hx => (itoa_no (n := b) (by omega) x hx).2
    by_cases e2 : (formF k).2.2 = true
    · rw [if_pos e2, List.append_assoc, List.cons_append, split_word _ _ _ hw, split_word _ _ _ hb, split_last _ _ (fun x hx => (itoa_no (n := c) (by omega) x hx).2)]
      show (kindUp (formF k).1 8, atV (itoa b), atV (itoa c)) = _
      rw [hkf, atV_itoa (by omega) (by omega), atV_itoa (by omega) (by omega), ha]
    · rw [if_neg e2, List.append_nil, split_word _ _ _ hw, split_last _ _ hb]
      show (kindUp (formF k).1 8, atV (itoa b), (0 : Int)) = _
      have hc : c = 0 := by
        rcases Decidable.em (c = 0) with hc | hc
        · exact hc
        · exact absurd (.inr (.inr ⟨by simpa using e2, hc⟩)) h4
      rw [hkf, atV_itoa (by omega) (by omega), ha, hc]
  · have e1' : (formF k).2.1 = false := by simpa using e1
    have e2 := keep_at k e1'
    rw [if_neg e1, if_neg (by rw [e2]; decide), List.append_nil, List.append_nil, split_last _ _ hw]
    show (kindUp (formF k).1 8, (0 : Int), (0 : Int)) = _
    have hb : b = 0 := by
      rcases Decidable.em (b = 0) with hc | hc
      · exact hc
      · exact absurd (.inr (.inr ⟨e1', hc⟩)) h3
    have hc : c = 0 := by
      rcases Decidable.em (c = 0) with hc | hc
      · exact hc
      · exact absurd (.inr (.inr ⟨e2, hc⟩)) h4
    rw [hkf, ha, hb, hc]
/-- moves as lines -/
def showM (l : List Mv) : List UInt8 := l.flatMap fun m => (lineM m).1
theorem lines_moves : ∀ (l : List Mv), (∀ m ∈ l, OkM m) → linesL (showM l) = l.map fun m => (lineM m).1
  | [], _ => rfl
  | m :: l, h => by
    obtain ⟨b, hb, hn⟩ := line_no (h m (by simp))
    show linesL ((lineM m).1 ++ showM l) = (lineM m).1 :: _
    rw [← lines_moves l (fun x hx => h x (by simp [hx])), hb, List.append_assoc]
    exact linesL_line b _ hn
theorem show_len : ∀ (l : List Mv), (∀ m ∈ l, OkM m) → (showM l).length ≤ 47 * l.length
  | [], _ => Nat.le_refl _
  | m :: l, h => by
    have h1 := show_len l (fun x hx => h x (by simp [hx]))
    have h2 := line_len50 (h m (by simp))
    show ((lineM m).1 ++ showM l).length ≤ _
    rw [List.length_append, List.length_cons]; omega
/-- a line that can be read -/
def goodL (s : List UInt8) : Prop := lineM (moveM s) = (s, 0)
instance (s : List UInt8) : Decidable (goodL s) := by unfold goodL; infer_instance
theorem good_line {m : Mv} (h : OkM m) : goodL (lineM m).1 := by
  unfold goodL
  rw [move_line h]
  exact Prod.ext rfl h
theorem good_ok {s : List UInt8} (h : goodL s) : OkM (moveM s) := by unfold OkM; rw [h]
theorem show_good : ∀ (L : List (List UInt8)), (∀ s ∈ L, goodL s) → showM (L.map moveM) = L.flatten
  | [], _ => rfl
  | s :: L, h => by
    show (lineM (moveM s)).1 ++ showM (L.map moveM) = s ++ L.flatten
    rw [show_good L (fun x hx => h x (by simp [hx])), h s (by simp)]
/-- what Read hands out at a text -/
def rdM (s : List UInt8) : List Mv := (linesL s).map moveM
theorem rdM_show {l : List Mv} (h : ∀ m ∈ l, OkM m) : rdM (showM l) = l := by
  unfold rdM
  rw [lines_moves l h, List.map_map]
  have : ∀ (l : List Mv), (∀ m ∈ l, OkM m) → l.map (moveM ∘ fun m => (lineM m).1) = l := by
    intro l
    induction l with
    | nil => intro _; rfl
    | cons m l ih =>
      intro h
      rw [List.map_cons, ih (fun x hx => h x (by simp [hx]))]
      show moveM (lineM m).1 :: l = _
      rw [move_line (h m (by simp))]
  exact this l h
end Go.Proofs.YtmdbcknlipahgaaDoor
