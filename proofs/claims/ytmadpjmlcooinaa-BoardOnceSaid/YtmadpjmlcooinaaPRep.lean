/- What the workers report, out of raw numbers; a turn of them all. No program in sight. -/
import Derived.Test.YtmadpjmlcooinaaTally
import Derived.Test.YtmadpjmlcooinaaPick
namespace Go.Proofs.Ytmadpjmlcooinaa
/-- how much i sent to k -/
def snt (L : List Tl) (i k : Nat) : Nat := if h : i < L.length then (if h2 : k < L[i].1.length then pickN (L[i].1[k]) 5 else 0) else 0
theorem snt_lt (L : List Tl) (i k : Nat) : snt L i k < 5 := by
  unfold snt
  split
  · split
    · exact pickN_lt _ (by decide)
    · decide
  · decide
def waO (L : List Tl) (i : Nat) : Nat := if h : i < L.length then pickN (L[i].2.1) 5 else 0
def opO (L : List Tl) (i : Nat) : Nat := if h : i < L.length then pickN (L[i].2.2) 5 else 0
theorem waO_lt (L : List Tl) (i : Nat) : waO L i < 5 := by unfold waO; split; exact pickN_lt _ (by decide); decide
theorem opO_lt (L : List Tl) (i : Nat) : opO L i < 5 := by unfold opO; split; exact pickN_lt _ (by decide); decide
def gtN (L : List Tl) (W : Nat) (off : Int) (i k : Nat) : Nat := snt L k i + if ((k * W + i : Nat) : Int) = off then 1 else 0
/-- the report of worker i -/
def repF (L : List Tl) (W : Nat) (off : Int) (i : Nat) : Rp := { wk := i, ep := 2, st := 3, sent := (List.range W).map (snt L i), got := (List.range W).map (gtN L W off i), wa := waO L i, op := opO L i }
theorem repF_now (L : List Tl) (W : Nat) (off : Int) {i : Nat} (h : i < W) : RpNow W (repF L W off i) := by
  refine ⟨⟨h, by simp [repF], by simp [repF], fun x hx => ?_, fun x hx => ?_, ?_, ?_⟩, rfl, rfl⟩
  · obtain ⟨k, _, rfl⟩ := List.mem_map.1 hx
    have := snt_lt L i k; omega
  · obtain ⟨k, _, rfl⟩ := List.mem_map.1 hx
    have := snt_lt L k i
    unfold gtN; split <;> omega
  · have := waO_lt L i; show waO L i ≤ 1000; omega
  · have := opO_lt L i; show opO L i ≤ 1000; omega
/-- the matrix of what was sent, filled up to i, k -/
def mat (L : List Tl) (W i k : Nat) : List Nat := (List.range (W * W)).map fun q => if q < i * W + k then snt L (q / W) (q % W) else 0
theorem mat_len (L : List Tl) (W i k : Nat) : (mat L W i k).length = W * W := by simp [mat]
theorem mat_at {L : List Tl} {W i k q : Nat} (h : q < W * W) : (mat L W i k)[q]? = some (if q < i * W + k then snt L (q / W) (q % W) else 0) := by
  unfold mat
  rw [List.getElem?_map, List.getElem?_range h]; rfl
theorem dm {W i k : Nat} (h : k < W) : (i * W + k) / W = i ∧ (i * W + k) % W = k := by
  have h0 : 0 < W := by omega
  constructor
  · rw [Nat.mul_comm, Nat.mul_add_div h0, Nat.div_eq_of_lt h, Nat.add_zero]
  · rw [Nat.mul_comm, Nat.mul_add_mod, Nat.mod_eq_of_lt h]
theorem ik_lt {W i k : Nat} (hi : i < W) (hk : k < W) : i * W + k < W * W := by
  have : (i + 1) * W ≤ W * W := Nat.mul_le_mul_right W hi
  rw [Nat.succ_mul] at this; omega
theorem mat_set {L : List Tl} {W i k : Nat} (hi : i < W) (hk : k < W) : (mat L W i k).set (i * W + k) (snt L i k) = mat L W i (k + 1) := by
  apply List.ext_getElem?
  intro q
  rw [List.getElem?_set, mat_len]
  by_cases hq : q < W * W
  · rw [mat_at hq, mat_at hq]
    by_cases he : i * W + k = q
    · subst he
      rw [if_pos rfl, if_pos hq, if_pos (by omega), (dm hk).1, (dm hk).2]
    · rw [if_neg he]
      by_cases hc : q < i * W + k
      · rw [if_pos hc, if_pos (by omega)]
      · rw [if_neg hc, if_neg (by omega)]
  · rw [if_neg (by have := ik_lt hi hk; omega), List.getElem?_eq_none (by rw [mat_len]; omega), List.getElem?_eq_none (by rw [mat_len]; omega)]
/-- the rest of a row is 0 -/
theorem mat_row {L : List Tl} {W i k : Nat} (hk : k ≤ W) (hz : ∀ j, k ≤ j → j < W → snt L i j = 0) : mat L W i k = mat L W (i + 1) 0 := by
  unfold mat
  refine List.map_congr_left fun q _ => ?_
  by_cases hc : q < i * W + k
  · rw [if_pos hc, if_pos (by rw [Nat.succ_mul]; omega)]
  · rw [if_neg hc]
    by_cases hc2 : q < (i + 1) * W + 0
    · rw [if_pos hc2]
      rw [Nat.succ_mul] at hc2
      have hq : q = i * W + (q - i * W) := by omega
      have h1 := dm (W := W) (i := i) (k := q - i * W) (by omega)
      rw [← hq] at h1
      rw [h1.1, h1.2, hz _ (by omega) (by omega)]
    · rw [if_neg hc2]
theorem mat_zero (L : List Tl) (W : Nat) : mat L W 0 0 = List.replicate (W * W) 0 := by
  apply List.ext_getElem?
  intro q
  by_cases hq : q < W * W
  · rw [mat_at hq, List.getElem?_replicate, if_pos hq, if_neg (by omega)]
  · rw [List.getElem?_eq_none (by rw [mat_len]; omega), List.getElem?_eq_none (by rw [List.length_replicate]; omega)]
theorem mat_full {L : List Tl} {W i k : Nat} (hi : i < W) (hk : k < W) : (mat L W W 0)[i * W + k]? = some (snt L i k) := by
  have := ik_lt hi hk
  rw [mat_at this, if_pos (by omega), (dm hk).1, (dm hk).2]
/-- a turn of the first i workers -/
def TurnOk (i : Nat) (t : List Nat) : Prop := t.Perm (List.range i)
theorem TurnOk.len {i : Nat} {t : List Nat} (h : TurnOk i t) : t.length = i := by have := h.length_eq; simpa using this
theorem TurnOk.lt {i : Nat} {t : List Nat} (h : TurnOk i t) : ∀ x ∈ t, x < i := fun _ hx => List.mem_range.1 (h.mem_iff.1 hx)
theorem TurnOk.insert {i at' : Nat} {t : List Nat} (h : TurnOk i t) : TurnOk (i + 1) (t.take at' ++ [i] ++ t.drop at') := by
  unfold TurnOk at *
  rw [List.range_succ]
  refine (List.Perm.append_right _ List.perm_append_comm).trans ?_
  rw [List.append_assoc, List.take_append_drop]
  exact (List.Perm.append_left [i] h).trans List.perm_append_comm
/-- the reports of all but 'out', in turn -/
def repsL (L : List Tl) (W out : Nat) (off : Int) (t : List Nat) : List Rp := (t.filter fun i => i != out).map (repF L W off)
theorem repsL_ok {L : List Tl} {W out : Nat} {off : Int} {t : List Nat} (hn : t.Nodup) (hl : ∀ x ∈ t, x < W) : BdOk W (repsL L W out off t) := by
  have hnf : (t.filter fun i => i != out).Nodup := hn.filter _
  have hlf : ∀ x ∈ t.filter fun i => i != out, x < W := fun x hx => hl x (List.mem_filter.1 hx).1
  refine ⟨fun r hr => ?_, ?_, ?_⟩
  · obtain ⟨i, hi, rfl⟩ := List.mem_map.1 hr
    exact repF_now L W off (hlf i hi)
  · unfold repsL
    rw [List.pairwise_map]
    exact hnf
  · unfold repsL
    rw [List.length_map]
    exact pigeon hnf hlf
end Go.Proofs.Ytmadpjmlcooinaa
