/- Plain facts on frames: a length, a payload, four bytes of a sum. -/
import Derived.Test.YtmdbcknlipahgaaDoorPSum
import Derived.Test.YtmdbcknlipahgaaDoorPGet
namespace Go.Proofs.YtmdbcknlipahgaaDoor
open Go.RowKit
/-- a number of 32 bits as four bytes -/
def le4 (s : Nat) : List Nat := (List.range 4).map fun i : Nat => s / 2 ^ (8 * i) % 256
theorem le4_eq (s : Nat) : le4 s = [s % 256, s / 256 % 256, s / 65536 % 256, s / 16777216 % 256] := by
  simp [le4, List.range_succ]
theorem le4_bytes (s : Nat) : AllB (le4 s) := by
  intro x hx
  obtain ⟨i, _, rfl⟩ := List.mem_map.1 hx
  exact Nat.mod_lt _ (by omega)
/-- and back -/
def un4F : Nat → Nat → List Nat → Nat
  | _, acc, [] => acc
  | i, acc, c :: r => un4F (i + 1) (acc + c * 2 ^ (8 * i)) r
def un4 (l : List Nat) : Nat := un4F 0 0 l
theorem un4_four (a b c d : Nat) : un4 [a, b, c, d] = a + b * 256 + c * 65536 + d * 16777216 := by simp [un4, un4F]
theorem un4_le4 {s : Nat} (h : s < 4294967296) : un4 (le4 s) = s := by rw [le4_eq, un4_four]; omega
theorem un4_inj {a b c d a' b' c' d' : Nat} (h1 : a < 256) (h2 : b < 256) (h3 : c < 256) (h1' : a' < 256) (h2' : b' < 256) (h3' : c' < 256) (h : un4 [a, b, c, d] = un4 [a', b', c', d']) : [a, b, c, d] = [a', b', c', d'] := by
  rw [un4_four, un4_four] at h
  have e1 : a = a' := by omega
  have e2 : b = b' := by omega
  have e3 : c = c' := by omega
  have e4 : d = d' := by omega
  rw [e1, e2, e3, e4]
/-- a payload's frame -/
def bodyL (b : List Nat) : List Nat := put b.length ++ b
def wrapL (b : List Nat) : List Nat := bodyL b ++ le4 (sumL (bodyL b))
theorem wrapL_len (b : List Nat) : (wrapL b).length = (put b.length).length + b.length + 4 := by simp [wrapL, bodyL, le4, Nat.add_assoc]
theorem bodyL_bytes {b : List Nat} (hb : AllB b) : AllB (bodyL b) := by
  intro x hx
  rcases List.mem_append.1 hx with h | h
  · exact put_bytes _ _ (Nat.le_refl _) x h
  · exact hb x h
theorem wrapL_bytes {b : List Nat} (hb : AllB b) : AllB (wrapL b) := by
  intro x hx
  rcases List.mem_append.1 hx with h | h
  · exact bodyL_bytes hb x h
  · exact le4_bytes _ x h
/-- the payload that bytes begin with, how many bytes the frame has, what is wrong -/
def unwrapL (l : List Nat) : List Nat × Nat × Nat :=
  if (getL l).2.2 ≠ 0 then ([], 0, (getL l).2.2)
  else if 20000 < (getL l).1 then ([], 0, 1)
  else if l.length < (getL l).2.1 + (getL l).1 + 4 then ([], 0, 4)
  else if un4 ((l.drop ((getL l).2.1 + (getL l).1)).take 4) ≠ sumL (l.take ((getL l).2.1 + (getL l).1)) then ([], 0, 5)
  else ((l.take ((getL l).2.1 + (getL l).1)).drop (getL l).2.1, (getL l).2.1 + (getL l).1 + 4, 0)
theorem unwrapL_of {n : Nat} {b s t : List Nat} (hn : b.length = n) (hn2 : n ≤ 20000) (hs : s.length = 4) :
    unwrapL (put n ++ b ++ s ++ t) = if un4 s ≠ sumL (put n ++ b) then ([], 0, 5) else (b, (put n).length + n + 4, 0) := by
  have hg : getL (put n ++ b ++ s ++ t) = (n, (put n).length, 0) := by
    rw [List.append_assoc, List.append_assoc]
    exact getL_put (by unfold U64; omega) _
  have hlen : (put n ++ b).length = (put n).length + n := by rw [List.length_append, hn]
  unfold unwrapL
  rw [hg]
  rw [if_neg (by simp), if_neg (by show ¬ 20000 < n; omega), if_neg (by
    show ¬ (put n ++ b ++ s ++ t).length < (put n).length + n + 4
    rw [List.length_append, List.length_append, hlen, hs]; omega)]
  show (if un4 (((put n ++ b ++ s ++ t).drop ((put n).length + n)).take 4) ≠ sumL ((put n ++ b ++ s ++ t).take ((put n).length + n)) then _ else _) = _
  have e1 : (put n ++ b ++ s ++ t).take ((put n).length + n) = put n ++ b := by
    rw [List.append_assoc (put n ++ b), ← hlen, List.take_left]
  have e2 : ((put n ++ b ++ s ++ t).drop ((put n).length + n)).take 4 = s := by
    rw [List.append_assoc (put n ++ b), ← hlen, List.drop_left, ← hs, List.take_left]
  rw [e1, e2]
  have e3 : (put n ++ b).drop (put n).length = b := List.drop_left
  show (if _ then _ else ((put n ++ b).drop (put n).length, _, _)) = _
  rw [e3]
theorem unwrapL_wrapL {b : List Nat} (hb : b.length ≤ 20000) (t : List Nat) : unwrapL (wrapL b ++ t) = (b, (wrapL b).length, 0) := by
  unfold wrapL bodyL
  rw [unwrapL_of rfl hb (by simp [le4]), if_neg (by rw [un4_le4 (sumL_lt _)]; simp)]
  simp [le4, Nat.add_assoc]
theorem unwrapL_bad {l : List Nat} (h : (unwrapL l).2.2 ≠ 0) : (unwrapL l).1 = [] ∧ (unwrapL l).2.1 = 0 := by
  unfold unwrapL at h ⊢
  split
  · exact ⟨rfl, rfl⟩
  split
  · exact ⟨rfl, rfl⟩
  split
  · exact ⟨rfl, rfl⟩
  split
  · exact ⟨rfl, rfl⟩
  · rename_i h1 h2 h3 h4
    rw [if_neg h1, if_neg h2, if_neg h3, if_neg h4] at h
    exact absurd rfl h
theorem flip_left {a b : List Nat} {i c : Nat} (h : i < a.length) : flip (a ++ b) i c = flip a i c ++ b := by
  unfold flip
  rw [List.set_append_left _ _ h, List.getD_eq_getElem?_getD, List.getD_eq_getElem?_getD, List.getElem?_append_left h]
theorem flip_right {a b : List Nat} {i c : Nat} : flip (a ++ b) (a.length + i) c = a ++ flip b i c := by
  unfold flip
  rw [List.set_append_right _ _ (by omega), List.getD_eq_getElem?_getD, List.getD_eq_getElem?_getD, List.getElem?_append_right (by omega), Nat.add_sub_cancel_left]
theorem flip_ne {l : List Nat} {i c : Nat} (hi : i < l.length) (hc : 0 < c) : flip l i c ≠ l := by
  intro h
  have h2 : (flip l i c)[i]? = some (l[i] ^^^ c) := by
    unfold flip
    rw [List.getElem?_set_self hi, List.getD_eq_getElem?_getD, List.getElem?_eq_getElem hi]; rfl
  rw [h, List.getElem?_eq_getElem hi] at h2
  have h3 : l[i] = l[i] ^^^ c := Option.some.inj h2
  have h4 : l[i] ^^^ (l[i] ^^^ c) = l[i] ^^^ l[i] := by rw [← h3]
  rw [← Nat.xor_assoc, Nat.xor_self, Nat.zero_xor] at h4
  omega
/-- one changed byte of a payload or its sum is told -/
theorem unwrapL_flip {b : List Nat} (hb : AllB b) (hb2 : b.length ≤ 20000) {i c : Nat} (hi : i < b.length + 4) (h0 : 0 < c) (hc : c < 256) :
    unwrapL (flip (wrapL b) ((put b.length).length + i) c) = ([], 0, 5) := by
  unfold wrapL
  have hbl : (bodyL b).length = (put b.length).length + b.length := by simp [bodyL]
  by_cases h : i < b.length
  · have e : flip (bodyL b ++ le4 (sumL (bodyL b))) ((put b.length).length + i) c = put b.length ++ flip b i c ++ le4 (sumL (bodyL b)) ++ [] := by
      rw [flip_left (by rw [hbl]; omega), List.append_nil]
      unfold bodyL
      rw [flip_right]
    rw [e, unwrapL_of (by rw [flip_len]) hb2 (by simp [le4]), if_pos]
    rw [un4_le4 (sumL_lt _)]
    have h2 := sumL_ne (bodyL_bytes hb) (i := (put b.length).length + i) (c := c) (by rw [hbl]; omega) h0 hc
    have e2 : flip (bodyL b) ((put b.length).length + i) c = put b.length ++ flip b i c := by unfold bodyL; rw [flip_right]
    rw [e2] at h2
    exact h2
  · obtain ⟨j, rfl⟩ : ∃ j, i = b.length + j := ⟨i - b.length, by omega⟩
    have e : flip (bodyL b ++ le4 (sumL (bodyL b))) ((put b.length).length + (b.length + j)) c = put b.length ++ b ++ flip (le4 (sumL (bodyL b))) j c ++ [] := by
      rw [← Nat.add_assoc, ← hbl, flip_right, List.append_nil]
      rfl
    rw [e, unwrapL_of rfl hb2 (by rw [flip_len]; simp [le4]), if_pos]
    intro h3
    have hne := flip_ne (l := le4 (sumL (bodyL b))) (i := j) (c := c) (by simp [le4]; omega) h0
    apply hne
    have h4 : un4 (flip (le4 (sumL (bodyL b))) j c) = un4 (le4 (sumL (bodyL b))) := by rw [h3, un4_le4 (sumL_lt _)]; rfl
    have hB := flip_bytes (le4_bytes (sumL (bodyL b))) (i := j) hc
    have hL := flip_len (le4 (sumL (bodyL b))) j c
    generalize flip (le4 (sumL (bodyL b))) j c = f at *
    rw [le4_eq] at h4 hL ⊢
    match f, hL, hB, h4 with
    | [a1, a2, a3, a4], _, hB, h4 =>
      exact un4_inj (hB a1 (by simp)) (hB a2 (by simp)) (hB a3 (by simp)) (Nat.mod_lt _ (by omega)) (Nat.mod_lt _ (by omega)) (Nat.mod_lt _ (by omega)) h4

theorem unwrapL_get {l : List Nat} {N k e : Nat} (h : getL l = (N, k, e)) (he : e ≠ 0) : unwrapL l = ([], 0, e) := by
  unfold unwrapL; rw [h]; exact if_pos he
theorem unwrapL_size {l : List Nat} {N k : Nat} (h : getL l = (N, k, 0)) (hN : 20000 < N) : unwrapL l = ([], 0, 1) := by
  unfold unwrapL; rw [h]; rw [if_neg (by simp)]; exact if_pos hN
theorem unwrapL_short {l : List Nat} {N k : Nat} (h : getL l = (N, k, 0)) (hN : ¬ 20000 < N) (hl : l.length < k + N + 4) : unwrapL l = ([], 0, 4) := by
  unfold unwrapL; rw [h]; rw [if_neg (by simp), if_neg hN]; exact if_pos hl
theorem unwrapL_sum {l : List Nat} {N k : Nat} (h : getL l = (N, k, 0)) (hN : ¬ 20000 < N) (hl : ¬ l.length < k + N + 4) (hs : un4 ((l.drop (k + N)).take 4) ≠ sumL (l.take (k + N))) : unwrapL l = ([], 0, 5) := by
  unfold unwrapL; rw [h]; rw [if_neg (by simp), if_neg hN, if_neg hl]; exact if_pos hs
theorem unwrapL_ok {l : List Nat} {N k : Nat} (h : getL l = (N, k, 0)) (hN : ¬ 20000 < N) (hl : ¬ l.length < k + N + 4) (hs : un4 ((l.drop (k + N)).take 4) = sumL (l.take (k + N))) : unwrapL l = ((l.drop k).take N, k + N + 4, 0) := by
  unfold unwrapL; rw [h]; rw [if_neg (by simp), if_neg hN, if_neg hl]
  have e : (l.take (k + N)).drop k = (l.drop k).take N := by rw [List.drop_take]; congr 1; omega
  show (if un4 ((l.drop (k + N)).take 4) ≠ sumL (l.take (k + N)) then _ else ((l.take (k + N)).drop k, _, _)) = _
  rw [if_neg (by simpa using hs), e]
theorem un4F_lt : ∀ (l : List Nat) (i acc : Nat), AllB l → i + l.length ≤ 4 → acc < 2 ^ (8 * i) → un4F i acc l < 2 ^ (8 * (i + l.length)) := by
  intro l
  induction l with
  | nil => intro i acc _ _ h; exact h
  | cons c r ih =>
    intro i acc hb hl h
    rw [un4F, List.length_cons]
    have hc := hb c (by simp)
    have h2 := ih (i + 1) (acc + c * 2 ^ (8 * i)) (fun x hx => hb x (by simp [hx])) (by rw [List.length_cons] at hl; omega) (by
      have h3 : 2 ^ (8 * (i + 1)) = 2 ^ (8 * i) * 256 := by rw [Nat.mul_add, Nat.pow_add]
      have h4 : c * 2 ^ (8 * i) ≤ 255 * 2 ^ (8 * i) := Nat.mul_le_mul_right _ (by omega)
      omega)
    have e : i + 1 + r.length = i + (r.length + 1) := by omega
    rw [e] at h2
    exact h2
theorem or_byte {i acc c : Nat} (hi : i < 4) (hacc : acc < 2 ^ (8 * i)) (hc : c < 256) :
    bits .or .u32 (acc : Int) ((c : Int) * 2 ^ (8 * i) % 4294967296) = ((acc + c * 2 ^ (8 * i) : Nat) : Int) ∧ acc + c * 2 ^ (8 * i) < 2 ^ (8 * (i + 1)) := by
  have h4 : c * 2 ^ (8 * i) ≤ 255 * 2 ^ (8 * i) := Nat.mul_le_mul_right _ (by omega)
  have h3 : 2 ^ (8 * (i + 1)) = 2 ^ (8 * i) * 256 := by rw [Nat.mul_add, Nat.pow_add]
  have h5 : 2 ^ (8 * (i + 1)) ≤ 2 ^ 32 := Nat.pow_le_pow_right (by omega) (by omega)
  have h6 : (2 : Nat) ^ 32 = 4294967296 := by decide
  have h7 : acc < 4294967296 := by
    have : 2 ^ (8 * i) ≤ 2 ^ 32 := Nat.pow_le_pow_right (by omega) (by omega)
    omega
  have h8 : c * 2 ^ (8 * i) < 4294967296 := by omega
  have e : ((c : Int) * 2 ^ (8 * i)) = ((c * 2 ^ (8 * i) : Nat) : Int) := by push_cast; rfl
  constructor
  · rw [e, Int.emod_eq_of_lt (by omega) (by omega), u32_or_nat _ _ h7 h8, Nat.or_comm, nat_join (8 * i) _ acc (Nat.mul_mod_left _ _) hacc, Nat.add_comm]
  · omega
end Go.Proofs.YtmdbcknlipahgaaDoor
