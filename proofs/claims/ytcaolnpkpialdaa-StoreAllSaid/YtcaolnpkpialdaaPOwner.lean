/- Plain facts on which vertex is whose. -/
import Derived.WalkKit
namespace Go.Proofs.Ytcaolnpkpialdaa
/-- how many vertices worker w has, of n, among W workers -/
def cntV (w n W : Nat) : Nat := (n - w + W - 1) / W
/-- they -/
def mineL (w n W : Nat) : List Int := (List.range (cntV w n W)).map fun k : Nat => ((w + k * W : Nat) : Int)
theorem mineL_len (w n W : Nat) : (mineL w n W).length = cntV w n W := by simp [mineL]
theorem cntV_iff {w n W k : Nat} (hW : 1 ≤ W) : k < cntV w n W ↔ w + k * W < n := by
  unfold cntV
  have h : k < (n - w + W - 1) / W ↔ (k + 1) * W ≤ n - w + W - 1 := by
    rw [← Nat.le_div_iff_mul_le (by omega)]; omega
  rw [h, Nat.add_mul, Nat.one_mul]
  omega
theorem cntV_val {n W q r j : Nat} (hn : n = q * W + r) (hr : r < W) (hj : j < W) : cntV j n W = q + if j < r then 1 else 0 := by
  unfold cntV
  subst hn
  by_cases h : j < r
  · rw [if_pos h]
    refine Nat.div_eq_of_lt_le ?_ ?_
    · rw [Nat.add_mul, Nat.one_mul]; omega
    · rw [Nat.add_mul, Nat.add_mul, Nat.one_mul]; omega
  · rw [if_neg h]
    refine Nat.div_eq_of_lt_le ?_ ?_
    · rw [Nat.add_zero]; omega
    · rw [Nat.add_zero, Nat.add_mul, Nat.one_mul]; omega
theorem sum_ind (q r : Nat) : ∀ W : Nat, ((List.range W).map fun j => q + if j < r then 1 else 0).sum = W * q + min r W := by
  intro W
  induction W with
  | zero => simp
  | succ W ih =>
    rw [List.range_succ, List.map_append, List.sum_append, ih, List.map_cons, List.map_nil, List.sum_cons, List.sum_nil, Nat.succ_mul]
    by_cases h : W < r
    · rw [if_pos h]; omega
    · rw [if_neg h]; omega
theorem cntV_sum {n W : Nat} (hW : 1 ≤ W) : ((List.range W).map fun j => cntV j n W).sum = n := by
  have hd := Nat.div_add_mod n W
  have hm := Nat.mod_lt n (show 0 < W by omega)
  have e : ((List.range W).map fun j => cntV j n W) = (List.range W).map fun j => n / W + if j < n % W then 1 else 0 := by
    refine List.map_congr_left fun j hj => ?_
    exact cntV_val (by rw [Nat.mul_comm]; omega) hm (List.mem_range.1 hj)
  rw [e, sum_ind]
  omega
theorem cntV_even {n W j : Nat} (hj : j < W) : n / W ≤ cntV j n W ∧ cntV j n W ≤ n / W + 1 := by
  have hd := Nat.div_add_mod n W
  have hm := Nat.mod_lt n (show 0 < W by omega)
  rw [cntV_val (q := n / W) (r := n % W) (by rw [Nat.mul_comm]; omega) hm hj]
  split <;> omega
theorem cntV_le {w n W : Nat} (hW : 1 ≤ W) : cntV w n W ≤ n := by
  unfold cntV
  have h : (n - w + W - 1) ≤ n + (W - 1) := by omega
  have h2 : (n - w + W - 1) / W < n + 1 := by
    rw [Nat.div_lt_iff_lt_mul (by omega)]
    have : n + 1 ≤ (n + 1) * W := Nat.le_mul_of_pos_right _ (by omega)
    have h3 : (n + 1) * W = n * W + W := by rw [Nat.add_mul, Nat.one_mul]
    have h4 : n ≤ n * W := Nat.le_mul_of_pos_right _ (by omega)
    omega
  omega
end Go.Proofs.Ytcaolnpkpialdaa
