/- Plain facts on the sum of bytes: a table of what eight bits do, and that turning a bit turns the sum in a way that does not hang on the other bytes. -/
import Derived.Test.YtmdbcknlipahgaaDoorPPut
namespace Go.Proofs.YtmdbcknlipahgaaDoor
open Go.RowKit
def crc1 (c : Nat) : Nat := if c % 2 = 1 then c / 2 ^^^ 3988292384 else c / 2
def crcK : Nat → Nat → Nat
  | 0, c => c
  | k + 1, c => crcK k (crc1 c)
theorem crcK_succ : ∀ (k c : Nat), crcK (k + 1) c = crc1 (crcK k c) := by
  intro k
  induction k with
  | zero => intro c; rfl
  | succ k ih => intro c; rw [crcK, ih, crcK]
theorem crc1_lt {c : Nat} (h : c < 4294967296) : crc1 c < 4294967296 := by
  unfold crc1
  split
  · exact Nat.xor_lt_two_pow (n := 32) (by omega) (by omega)
  · omega
theorem crcK_lt : ∀ (k : Nat) {c : Nat}, c < 4294967296 → crcK k c < 4294967296 := by
  intro k
  induction k with
  | zero => intro c h; exact h
  | succ k ih => intro c h; rw [crcK]; exact ih (crc1_lt h)
/-- what eight bits do -/
def tabN (i : Nat) : Nat := crcK 8 i
/-- the table behind k rounds -/
def tabA (k : Nat) : Array Value := ((List.range 256).map fun i : Nat => Value.int .u32 (if i < k then (tabN i : Int) else 0)).toArray
theorem tabA_size (k : Nat) : (tabA k).size = 256 := by simp [tabA]
theorem tabA_get {k i : Nat} (hi : i < 256) : (tabA k)[i]? = some (.int .u32 (if i < k then (tabN i : Int) else 0)) := by
  unfold tabA
  rw [List.getElem?_toArray, List.getElem?_map, List.getElem?_range hi]; rfl
theorem tabA_one (k : Nat) : (tabA k).all (·.oneCell') = true := by
  rw [Array.all_eq_true_iff_forall_mem]
  intro v hv
  simp [tabA] at hv
  obtain ⟨i, _, rfl⟩ := hv
  rfl
theorem tabA_step {k : Nat} : (tabA k).setIfInBounds k (.int .u32 (tabN k : Int)) = tabA (k + 1) := by
  apply Array.ext_getElem?
  intro i
  rw [Array.getElem?_setIfInBounds]
  by_cases hi : i < 256
  · rw [tabA_get hi, tabA_get hi]
    by_cases h : k = i
    · subst h
      rw [if_pos rfl, tabA_size, if_pos hi, if_pos (by omega)]
    · rw [if_neg h]
      by_cases h2 : i < k
      · rw [if_pos h2, if_pos (by omega)]
      · rw [if_neg h2, if_neg (by omega)]
  · rw [Array.getElem?_eq_none (by rw [tabA_size]; omega), Array.getElem?_eq_none (by rw [tabA_size]; omega)]
    split
    · rw [if_neg (by rw [tabA_size]; omega)]
    · rfl
def tabZ : Array Value := Array.replicate 256 (.int .u32 0)
theorem tabZ_eq : tabZ = tabA 0 := by
  apply Array.ext_getElem?
  intro i
  by_cases hi : i < 256
  · rw [tabA_get hi, if_neg (by omega), tabZ, Array.getElem?_replicate, if_pos hi]
  · rw [Array.getElem?_eq_none (xs := tabA 0) (by rw [tabA_size]; omega), tabZ, Array.getElem?_replicate, if_neg hi]

theorem and1 (c : Nat) (h : c < 4294967296) : bits .and .u32 (c : Int) 1 = ((c % 2 : Nat) : Int) := by
  have := u32_and_nat c 1 h (by omega)
  rw [nat_mask1] at this
  exact this
theorem xor_poly (c : Nat) (h : c < 4294967296) : bits .xor .u32 ((c : Int) / 2) 3988292384 = ((c / 2 ^^^ 3988292384 : Nat) : Int) := by
  have := u32_xor_nat (c / 2) 3988292384 (by omega) (by omega)
  rw [← this]
  congr 1

theorem tabN_lt {i : Nat} (h : i < 4294967296) : tabN i < 4294967296 := crcK_lt 8 h
/-- one byte more -/
def sum1 (s x : Nat) : Nat := tabN (s % 256 ^^^ x) ^^^ s / 256
def sumF (s : Nat) (l : List Nat) : Nat := l.foldl sum1 s
/-- the sum of bytes -/
def sumL (l : List Nat) : Nat := 4294967295 - sumF 4294967295 l
theorem sum1_lt {s x : Nat} (hs : s < 4294967296) (hx : x < 256) : sum1 s x < 4294967296 := by
  unfold sum1
  have h1 : (s % 256 ^^^ x) < 2 ^ 8 := Nat.xor_lt_two_pow (by omega) (by omega)
  have h2 := tabN_lt (i := s % 256 ^^^ x) (by omega)
  exact Nat.xor_lt_two_pow (n := 32) (by omega) (by omega)
theorem sumF_lt : ∀ (l : List Nat) {s : Nat}, s < 4294967296 → AllB l → sumF s l < 4294967296 := by
  intro l
  induction l with
  | nil => intro s h _; exact h
  | cons x r ih => intro s h hb; exact ih (sum1_lt h (hb x (by simp))) (fun y hy => hb y (by simp [hy]))

/-! the step is linear over exclusive or -/
theorem xor_odd (a b : Nat) : (a ^^^ b) % 2 = (a % 2 + b % 2) % 2 := by
  have h1 : (a ^^^ b) % 2 ^ 1 = a % 2 ^ 1 ^^^ b % 2 ^ 1 := Nat.xor_mod_two_pow
  rcases Nat.mod_two_eq_zero_or_one a with ha | ha <;> rcases Nat.mod_two_eq_zero_or_one b with hb | hb <;> simp [ha, hb] at h1 ⊢ <;> exact h1
theorem xor_half (a b : Nat) : (a ^^^ b) / 2 = a / 2 ^^^ b / 2 := by
  have := Nat.xor_div_two_pow (a := a) (b := b) (n := 1)
  simpa using this
theorem xor4 (a b c d : Nat) : (a ^^^ b) ^^^ (c ^^^ d) = (a ^^^ c) ^^^ (b ^^^ d) := by
  rw [Nat.xor_assoc, Nat.xor_assoc, ← Nat.xor_assoc b c d, Nat.xor_comm b c, Nat.xor_assoc c b d]
theorem crc1_xor (a b : Nat) : crc1 (a ^^^ b) = crc1 a ^^^ crc1 b := by
  have h1 := xor_odd a b
  have h2 := xor_half a b
  unfold crc1
  rw [h1, h2]
  rcases Nat.mod_two_eq_zero_or_one a with ha | ha <;> rcases Nat.mod_two_eq_zero_or_one b with hb | hb
  · simp [ha, hb]
  · simp [ha, hb, Nat.xor_assoc]
  · simp [ha, hb]
    rw [Nat.xor_assoc, Nat.xor_assoc, Nat.xor_comm (b / 2)]
  · simp [ha, hb]
    rw [Nat.xor_comm (b / 2), ← Nat.xor_assoc, Nat.xor_assoc (a / 2), Nat.xor_self, Nat.xor_zero]
theorem crcK_xor : ∀ (k a b : Nat), crcK k (a ^^^ b) = crcK k a ^^^ crcK k b := by
  intro k
  induction k with
  | zero => intro a b; rfl
  | succ k ih => intro a b; rw [crcK, crc1_xor, ih]; rfl
theorem tabN_xor (a b : Nat) : tabN (a ^^^ b) = tabN a ^^^ tabN b := crcK_xor 8 a b
theorem xor_256 (a b : Nat) : (a ^^^ b) % 256 = a % 256 ^^^ b % 256 := Nat.xor_mod_two_pow (n := 8)
theorem xor_d256 (a b : Nat) : (a ^^^ b) / 256 = a / 256 ^^^ b / 256 := Nat.xor_div_two_pow (n := 8)
theorem sum1_xor (s t x y : Nat) : sum1 (s ^^^ t) (x ^^^ y) = sum1 s x ^^^ sum1 t y := by
  unfold sum1
  rw [xor_256, xor_d256, xor4, tabN_xor, xor4]
/-- byte by byte -/
def xorL : List Nat → List Nat → List Nat
  | x :: a, y :: b => (x ^^^ y) :: xorL a b
  | _, _ => []
theorem sumF_xor : ∀ (a b : List Nat) (s t : Nat), a.length = b.length → sumF (s ^^^ t) (xorL a b) = sumF s a ^^^ sumF t b := by
  intro a
  induction a with
  | nil => intro b s t h; cases b with | nil => rfl | cons y b => simp at h
  | cons x a ih =>
    intro b s t h
    cases b with
    | nil => simp at h
    | cons y b =>
      show sumF (sum1 (s ^^^ t) (x ^^^ y)) (xorL a b) = _
      rw [sum1_xor]
      exact ih b _ _ (by simpa using h)
/-! the step loses nothing: what went in can be told from what came out -/
theorem crc1_zero {c : Nat} (hc : c < 4294967296) (h : crc1 c = 0) : c = 0 := by
  unfold crc1 at h
  split at h
  · exfalso
    have h2 : c / 2 = 3988292384 := by
      have h3 : (c / 2 ^^^ 3988292384) ^^^ 3988292384 = 0 ^^^ 3988292384 := by rw [h]
      rw [Nat.xor_assoc, Nat.xor_self, Nat.xor_zero, Nat.zero_xor] at h3
      exact h3
    omega
  · omega
theorem crcK_zero : ∀ (k : Nat) {c : Nat}, c < 4294967296 → crcK k c = 0 → c = 0 := by
  intro k
  induction k with
  | zero => intro c _ h; exact h
  | succ k ih => intro c hc h; exact crc1_zero hc (ih (crc1_lt hc) h)
theorem crcK_low : ∀ (k c : Nat), crcK k (c * 2 ^ k) = c := by
  intro k
  induction k with
  | zero => intro c; show c * 1 = c; omega
  | succ k ih =>
    intro c
    rw [crcK]
    have e : crc1 (c * 2 ^ (k + 1)) = c * 2 ^ k := by
      have h1 : c * 2 ^ (k + 1) = 2 * (c * 2 ^ k) := by rw [Nat.pow_succ, Nat.mul_comm (2 ^ k) 2, ← Nat.mul_assoc, Nat.mul_comm c 2, Nat.mul_assoc]
      unfold crc1
      rw [if_neg (by omega)]
      omega
    rw [e, ih]
theorem sum1_crcK (s x : Nat) : sum1 s x = crcK 8 (s ^^^ x) := by
  have h1 : (s ^^^ x) = ((s % 256 ^^^ x) ^^^ (s / 256 * 2 ^ 8)) := by
    have hd : s = (s / 256 * 2 ^ 8) ^^^ (s % 256) := by
      have h2 : (s / 256 * 2 ^ 8) ^^^ (s % 256) = s / 256 * 2 ^ 8 + s % 256 := by
        rw [← nat_join 8 (s / 256 * 2 ^ 8) (s % 256) (Nat.mul_mod_left _ _) (by omega)]
        apply Nat.eq_of_testBit_eq
        intro i
        rw [Nat.testBit_xor, Nat.testBit_or]
        by_cases hi : i < 8
        · have : (s / 256 * 2 ^ 8).testBit i = false := by rw [Nat.testBit_mul_two_pow]; simp; omega
          rw [this]; simp
        · have : (s % 256).testBit i = false := by
            apply Nat.testBit_lt_two_pow
            have h3 : 2 ^ 8 ≤ 2 ^ i := Nat.pow_le_pow_right (by omega) (by omega)
            omega
          rw [this]; simp
      rw [h2]; omega
    rw [Nat.xor_comm (s % 256) x, Nat.xor_assoc, Nat.xor_comm (s % 256), ← hd, Nat.xor_comm]
  rw [h1, crcK_xor, crcK_low]
  rfl
theorem sum1_zero {s x : Nat} (hs : s < 4294967296) (hx : x < 256) (h : sum1 s x = 0) : s ^^^ x = 0 := by
  rw [sum1_crcK s x] at h
  exact crcK_zero 8 (Nat.xor_lt_two_pow (n := 32) (by omega) (by omega)) h
theorem xor_eq_zero {a b : Nat} (h : a ^^^ b = 0) : a = b := by
  have h3 : (a ^^^ b) ^^^ b = 0 ^^^ b := by rw [h]
  rw [Nat.xor_assoc, Nat.xor_self, Nat.xor_zero, Nat.zero_xor] at h3
  exact h3
/-- behind noughts alone a sum that is 0 was 0 -/
theorem sumF_zeros : ∀ (n : Nat) {s : Nat}, s < 4294967296 → sumF s (List.replicate n 0) = 0 → s = 0 := by
  intro n
  induction n with
  | zero => intro s _ h; exact h
  | succ n ih =>
    intro s hs h
    have h1 := ih (sum1_lt hs (by omega : 0 < 256)) h
    have h2 := sum1_zero hs (by omega) h1
    rwa [Nat.xor_zero] at h2
/-- one byte that is not 0 among noughts -/
theorem sumF_one : ∀ (i n : Nat) (c : Nat), 0 < c → c < 256 → sumF 0 (List.replicate i 0 ++ c :: List.replicate n 0) ≠ 0 := by
  intro i n c h0 h1 h
  have hz : ∀ i, sumF 0 (List.replicate i 0) = 0 := by
    intro i
    induction i with
    | zero => rfl
    | succ i ih => show sumF (sum1 0 0) (List.replicate i 0) = 0; have : sum1 0 0 = 0 := by decide
                   rw [this]; exact ih
  unfold sumF at h hz
  rw [List.foldl_append, hz, List.foldl_cons] at h
  have h2 := sumF_zeros n (sum1_lt (by omega) h1) h
  have h3 := sum1_zero (by omega) h1 h2
  rw [Nat.zero_xor] at h3
  omega
theorem xor_ones32 (x : Nat) (h : x < 4294967296) : x ^^^ 4294967295 = 4294967295 - x := by
  have e : (~~~ (BitVec.ofNat 32 x)).toNat = (BitVec.allOnes 32 ^^^ BitVec.ofNat 32 x).toNat := by rw [BitVec.not_def]
  rw [BitVec.toNat_not, BitVec.toNat_xor, BitVec.toNat_allOnes, BitVec.toNat_ofNat, Nat.mod_eq_of_lt (by omega : x < 2 ^ 32)] at e
  rw [Nat.xor_comm]
  exact e.symm
theorem sumL_lt (l : List Nat) : sumL l < 4294967296 := by unfold sumL; omega

/-- a byte turned -/
def flip (l : List Nat) (i c : Nat) : List Nat := l.set i ((l.getD i 0) ^^^ c)
theorem flip_len (l : List Nat) (i c : Nat) : (flip l i c).length = l.length := by simp [flip]
theorem flip_bytes {l : List Nat} {i c : Nat} (hl : AllB l) (hc : c < 256) : AllB (flip l i c) := by
  intro x hx
  rcases List.mem_or_eq_of_mem_set hx with h | h
  · exact hl x h
  · subst h
    have : l.getD i 0 < 256 := by
      rw [List.getD_eq_getElem?_getD]
      cases h : l[i]? with
      | none => simp
      | some y => exact hl y (List.mem_of_getElem? h)
    exact Nat.xor_lt_two_pow (n := 8) (by omega) (by omega)
theorem xorL_zeros : ∀ (l : List Nat) (n : Nat), l.length = n → xorL l (List.replicate n 0) = l := by
  intro l
  induction l with
  | nil => intro n h; cases n <;> rfl
  | cons x r ih =>
    intro n h
    cases n with
    | zero => simp at h
    | succ n => show (x ^^^ 0) :: xorL r (List.replicate n 0) = _; rw [Nat.xor_zero, ih n (by simpa using h)]
theorem flip_xor : ∀ (l : List Nat) (i c : Nat), i < l.length → flip l i c = xorL l (List.replicate i 0 ++ c :: List.replicate (l.length - i - 1) 0) := by
  intro l
  induction l with
  | nil => intro i c h; simp at h
  | cons x r ih =>
    intro i c h
    cases i with
    | zero =>
      show (x ^^^ c) :: r = (x ^^^ c) :: xorL r _
      rw [xorL_zeros r _ (by simp)]
    | succ i =>
      have h2 : i < r.length := by simpa using h
      have e : (x :: r).length - (i + 1) - 1 = r.length - i - 1 := by rw [List.length_cons]; omega
      rw [e]
      show x :: flip r i c = (x ^^^ 0) :: xorL r _
      rw [Nat.xor_zero, ih i c h2]
      rfl
/-- what turning a byte does to the sum -/
def turned (n i c : Nat) : Nat := sumF 0 (List.replicate i 0 ++ c :: List.replicate (n - i - 1) 0)
theorem xor_compl {a b : Nat} (ha : a < 4294967296) (hb : b < 4294967296) : (4294967295 - a) ^^^ (4294967295 - b) = a ^^^ b := by
  rw [← xor_ones32 a ha, ← xor_ones32 b hb, xor4, Nat.xor_self, Nat.xor_zero]
theorem sumL_flip {l : List Nat} {i c : Nat} (hl : AllB l) (hi : i < l.length) (hc : c < 256) : sumL l ^^^ sumL (flip l i c) = turned l.length i c := by
  have h1 := sumF_lt l (s := 4294967295) (by omega) hl
  have h2 := sumF_lt (flip l i c) (s := 4294967295) (by omega) (flip_bytes hl hc)
  unfold sumL
  rw [xor_compl h1 h2, flip_xor l i c hi]
  have h3 := sumF_xor l (List.replicate i 0 ++ c :: List.replicate (l.length - i - 1) 0) 4294967295 0 (by simp; omega)
  rw [Nat.xor_zero] at h3
  rw [h3, ← Nat.xor_assoc, Nat.xor_self, Nat.zero_xor]
  rfl
theorem turned_ne {n i c : Nat} (h0 : 0 < c) (h1 : c < 256) : turned n i c ≠ 0 := sumF_one i (n - i - 1) c h0 h1
theorem sumL_ne {l : List Nat} {i c : Nat} (hl : AllB l) (hi : i < l.length) (h0 : 0 < c) (hc : c < 256) : sumL l ≠ sumL (flip l i c) := by
  intro h
  have h2 := sumL_flip hl hi hc
  rw [← h, Nat.xor_self] at h2
  exact turned_ne h0 hc h2.symm
end Go.Proofs.YtmdbcknlipahgaaDoor
