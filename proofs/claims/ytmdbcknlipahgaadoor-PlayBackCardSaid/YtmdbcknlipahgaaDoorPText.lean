/- Texts of numbers: lines, words, numerals: plain laws. No program walked. -/
import Derived.Lib.Split
import Derived.Lib.SplitLaws
import Derived.Lib.AtoiAll
import Derived.Lib.ItoaNum
import Derived.Lib.Strings
namespace Go.Proofs.YtmdbcknlipahgaaDoor
open Go.Lib
theorem dg_nat {d : Nat} (h : d < 10) : (UInt8.ofNat (48 + d)).toNat = 48 + d := by
  rw [UInt8.toNat_ofNat']; omega
theorem dd_small {u : Nat} (h : u < 10) : decDigits u = [UInt8.ofNat (48 + u)] := by rw [decDigits, dif_pos h]
theorem dd_big {u : Nat} (h : ¬ u < 10) : decDigits u = decDigits (u / 10) ++ [UInt8.ofNat (48 + u % 10)] := by rw [decDigits, dif_neg h]
theorem dd_ne (u : Nat) : decDigits u ≠ [] := by
  by_cases h : u < 10
  · rw [dd_small h]; simp
  · rw [dd_big h]; simp
/-- digits alone -/
theorem dd_dig (u : Nat) : ∀ b ∈ decDigits u, 48 ≤ b.toNat ∧ b.toNat ≤ 57 := by
  induction u using Nat.strongRecOn with
  | ind u ih =>
    by_cases h : u < 10
    · rw [dd_small h]
      intro b hb
      rw [List.mem_singleton] at hb
      subst hb
      rw [dg_nat h]; omega
    · rw [dd_big h]
      intro b hb
      rcases List.mem_append.1 hb with hb | hb
      · exact ih (u / 10) (by omega) b hb
      · rw [List.mem_singleton] at hb
        subst hb
        rw [dg_nat (by omega)]; omega
theorem dd_len (u : Nat) : ∀ k, 1 ≤ k → u < 10 ^ k → (decDigits u).length ≤ k := by
  induction u using Nat.strongRecOn with
  | ind u ih =>
    intro k hk hu
    by_cases h : u < 10
    · rw [dd_small h]; exact hk
    · rw [dd_big h, List.length_append]
      have hk2 : 2 ≤ k := by
        rcases Nat.lt_or_ge 1 k with h2 | h2
        · exact h2
        · have : k = 1 := by omega
          subst this; omega
      have := ih (u / 10) (by omega) (k - 1) (by omega) (by
        have e : 10 ^ k = 10 ^ (k - 1) * 10 := by rw [← Nat.pow_succ]; congr 1; omega
        omega)
      simp
      omega
theorem parse_append : ∀ (l r : List UInt8) (acc a : Nat), parseUint10 acc l = .ok a → parseUint10 acc (l ++ r) = parseUint10 a r
  | [], r, acc, a, h => by cases h; rfl
  | c :: l, r, acc, a, h => by
    unfold parseUint10 at h
    rw [List.cons_append]
    conv => lhs; unfold parseUint10
    split at h
    · rename_i h1
      rw [if_pos h1]
      split at h
      · cases h
      · rename_i h2
        rw [if_neg h2]
        split at h
        · cases h
        · rename_i h3
          rw [if_neg h3]
          exact parse_append l r _ a h
    · cases h
theorem parse_dd (u : Nat) (hu : u < 18446744073709551616) : parseUint10 0 (decDigits u) = .ok u := by
  induction u using Nat.strongRecOn with
  | ind u ih =>
    by_cases h : u < 10
    · rw [dd_small h]
      unfold parseUint10
      rw [dg_nat h, if_pos (by omega), if_neg (by omega), if_neg (by omega)]
      unfold parseUint10
      congr 1; omega
    · rw [dd_big h, parse_append _ _ _ _ (ih (u / 10) (by omega) (by omega))]
      unfold parseUint10
      rw [dg_nat (by omega), if_pos (by omega), if_neg (by omega), if_neg (by omega)]
      unfold parseUint10
      congr 1; omega
/-- a number that is not below 0 is had again from its text -/
theorem atoi_itoa {n : Int} (h0 : 0 ≤ n) (h1 : n < 9223372036854775808) : atoiAll (itoa n) = .ok n := by
  obtain ⟨u, rfl⟩ : ∃ u : Nat, n = (u : Int) := ⟨n.toNat, by omega⟩
  have e : itoa (u : Int) = decDigits u := by unfold itoa; rw [if_neg (by omega)]; rfl
  rw [e]
  have hne := dd_ne u
  have hd := dd_dig u
  have hp := parse_dd u (by omega)
  unfold atoiAll
  cases hl : decDigits u with
  | nil => exact absurd hl hne
  | cons c r =>
    rw [hl] at hd hp
    have hc := hd c (by simp)
    dsimp only
    rw [if_neg (by omega)]
    have hm : parseMag (c :: r) = .ok u := by unfold parseMag; rw [if_neg (by simp)]; exact hp
    rw [hm]
    dsimp only
    rw [if_neg (by omega), if_neg (by omega), if_neg (by omega)]
theorem itoa_dig {n : Int} (h0 : 0 ≤ n) : (∀ b ∈ itoa n, 48 ≤ b.toNat ∧ b.toNat ≤ 57) ∧ itoa n ≠ [] := by
  have e : itoa n = decDigits n.toNat := by unfold itoa; rw [if_neg (by omega)]
  rw [e]
  exact ⟨dd_dig _, dd_ne _⟩
theorem itoa_len {n : Int} (h0 : 0 ≤ n) (k : Nat) (hk : 1 ≤ k) (h : n < (10 ^ k : Nat)) : (itoa n).length ≤ k := by
  have e : itoa n = decDigits n.toNat := by unfold itoa; rw [if_neg (by omega)]
  rw [e]
  exact dd_len _ k hk (by omega)
/-- lines, each with its end -/
def linesL : List UInt8 → List (List UInt8)
  | [] => []
  | c :: r => if c = 10 then [10] :: linesL r else match linesL r with
    | [] => [[c]]
    | l :: ls => (c :: l) :: ls
theorem linesL_line : ∀ (b t : List UInt8), (∀ x ∈ b, x ≠ 10) → linesL (b ++ 10 :: t) = (b ++ [10]) :: linesL t
  | [], t, _ => by
    show linesL (10 :: t) = _
    conv => lhs; unfold linesL
    rw [if_pos rfl]; rfl
  | c :: b, t, h => by
    rw [List.cons_append]
    conv => lhs; unfold linesL
    rw [if_neg (h c (by simp)), linesL_line b t (fun x hx => h x (by simp [hx]))]
    rfl
theorem linesL_last : ∀ (b : List UInt8), b ≠ [] → (∀ x ∈ b, x ≠ 10) → linesL b = [b]
  | [], h, _ => absurd rfl h
  | [c], _, h => by
    unfold linesL
    rw [if_neg (h c (by simp))]; rfl
  | c :: d :: b, _, h => by
    unfold linesL
    rw [if_neg (h c (by simp)), linesL_last (d :: b) (by simp) (fun x hx => h x (by simp [hx]))]
/-- words between blanks -/
theorem idx_blank : ∀ (x t : List UInt8) (c : UInt8), (∀ b ∈ x, b ≠ c) → index (x ++ c :: t) [c] = (x.length : Int)
  | [], t, c, _ => by
    show index (c :: t) [c] = 0
    unfold index
    rw [if_pos (by simp)]
  | b :: x, t, c, h => by
    have hb : b ≠ c := h b (by simp)
    have ih := idx_blank x t c (fun y hy => h y (by simp [hy]))
    rw [List.cons_append]
    unfold index
    rw [if_neg (by simp; exact fun e => hb e.symm), ih, if_neg (by simp <;> omega)]
    simp
theorem split_word (x t : List UInt8) (c : UInt8) (h : ∀ b ∈ x, b ≠ c) : split (x ++ c :: t) [c] = x :: split t [c] := by
  unfold split
  have hx : x.count c = 0 := List.count_eq_zero.2 (fun hm => h c hm rfl)
  have hc : count (x ++ c :: t) [c] = count t [c] + 1 := by
    rw [count_one, count_one, List.count_append, hx, List.count_cons_self]; omega
  rw [hc]
  show (if index (x ++ c :: t) [c] == -1 then [x ++ c :: t] else (x ++ c :: t).take ((index (x ++ c :: t) [c]).toNat + 0) :: splitK [c] 0 (count t [c]) ((x ++ c :: t).drop ((index (x ++ c :: t) [c]).toNat + [c].length))) = _
  rw [idx_blank x t c h, if_neg (by simp <;> omega)]
  simp
theorem split_last (x : List UInt8) (c : UInt8) (h : ∀ b ∈ x, b ≠ c) : split x [c] = [x] := by
  unfold split
  have hc : count x [c] = 0 := by rw [count_one]; exact List.count_eq_zero.2 (fun hm => h c hm rfl)
  rw [hc]; rfl
/-- a line of numbers -/
def lineL : List Int → List UInt8
  | [] => [10]
  | [n] => itoa n ++ [10]
  | n :: m :: l => itoa n ++ 32 :: lineL (m :: l)
/-- what a word says; -1: none -/
def numW (w : List UInt8) : Int := match atoiAll w with
  | .ok v => v
  | _ => -1
/-- the numbers of a line -/
def numsL (l : List UInt8) : List Int := (split (trimSuffix l [10]) [32]).map numW
theorem trim_end (b : List UInt8) : trimSuffix (b ++ [10]) [10] = b := by
  unfold trimSuffix hasSuffix
  rw [if_pos (List.isSuffixOf_iff_suffix.2 (List.suffix_append _ _))]
  simp
def wordsL : List Int → List UInt8
  | [] => []
  | [n] => itoa n
  | n :: m :: l => itoa n ++ 32 :: wordsL (m :: l)
theorem lineL_words : ∀ l : List Int, lineL l = wordsL l ++ [10]
  | [] => rfl
  | [_] => rfl
  | n :: m :: l => by
    show itoa n ++ 32 :: lineL (m :: l) = (itoa n ++ 32 :: wordsL (m :: l)) ++ [10]
    rw [lineL_words (m :: l)]; simp
theorem words_no {l : List Int} (h : ∀ n ∈ l, 0 ≤ n) : ∀ b ∈ wordsL l, b ≠ 10 := by
  induction l with
  | nil => intro b hb; cases hb
  | cons n l ih =>
    have hn := (itoa_dig (h n (by simp))).1
    have h10 : ∀ b ∈ itoa n, b ≠ 10 := fun b hb e => by have := hn b hb; rw [e] at this; simp at this
    cases l with
    | nil => exact h10
    | cons m l =>
      intro b hb
      rcases List.mem_append.1 hb with hb | hb
      · exact h10 b hb
      · rcases List.mem_cons.1 hb with rfl | hb
        · decide
        · exact ih (fun x hx => h x (by simp [hx])) b hb
theorem words_split : ∀ {l : List Int}, l ≠ [] → (∀ n ∈ l, 0 ≤ n ∧ n < 9223372036854775808) → (split (wordsL l) [32]).map numW = l
  | [], h, _ => absurd rfl h
  | [n], _, h => by
    have hn := h n (by simp)
    have hd := (itoa_dig hn.1).1
    rw [show wordsL [n] = itoa n from rfl, split_last _ _ (fun b hb e => by have := hd b hb; rw [e] at this; simp at this)]
    simp [numW, atoi_itoa hn.1 hn.2]
  | n :: m :: l, _, h => by
    have hn := h n (by simp)
    have hd := (itoa_dig hn.1).1
    rw [show wordsL (n :: m :: l) = itoa n ++ 32 :: wordsL (m :: l) from rfl, split_word _ _ _ (fun b hb e => by have := hd b hb; rw [e] at this; simp at this), List.map_cons, words_split (by simp) (fun x hx => h x (by simp [hx]))]
    simp [numW, atoi_itoa hn.1 hn.2]
/-- the numbers of a line are those that it shows -/
theorem nums_line {l : List Int} (hl : l ≠ []) (h : ∀ n ∈ l, 0 ≤ n ∧ n < 9223372036854775808) : numsL (lineL l) = l := by
  unfold numsL
  rw [lineL_words, trim_end]
  exact words_split hl h
theorem lines_line {l : List Int} (h : ∀ n ∈ l, 0 ≤ n) (t : List UInt8) : linesL (lineL l ++ t) = lineL l :: linesL t := by
  rw [lineL_words]
  have := linesL_line (wordsL l) t (words_no h)
  rw [List.append_assoc]
  exact this
end Go.Proofs.YtmdbcknlipahgaaDoor
