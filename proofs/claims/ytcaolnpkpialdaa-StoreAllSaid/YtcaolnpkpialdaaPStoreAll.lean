/- All parts together: plain laws. No program walked. -/
import Derived.Test.YtcaolnpkpialdaaPStore
namespace Go.Proofs.Ytcaolnpkpialdaa
open Go.RowKit Go.Sort Go.Proofs
/-- a sum over a worker's vertices -/
def sumW (f : Nat → Nat) (w N W : Nat) : Nat := ((mineN w N W).map f).sum
/-- and over the first workers -/
def sumWs (f : Nat → Nat) (N W k : Nat) : Nat := ((List.range k).map fun w => sumW f w N W).sum
theorem sumWs_succ (f : Nat → Nat) (N W k : Nat) : sumWs f N W (k + 1) = sumWs f N W k + sumW f k N W := by
  unfold sumWs; rw [List.range_succ, List.map_append, List.sum_append]; simp
theorem sum_flat (f : Nat → Nat) : ∀ (L : List (List Nat)), (L.map fun l => (l.map f).sum).sum = (L.flatten.map f).sum
  | [] => rfl
  | l :: L => by
    rw [List.map_cons, List.sum_cons, sum_flat f L, List.flatten_cons, List.map_append, List.sum_append]
theorem all_mine {N W : Nat} (hW : 1 ≤ W) : ((List.range W).map fun w => mineN w N W).flatten.Perm (List.range N) := by
  have hnd : ((List.range W).map fun w => mineN w N W).flatten.Nodup := by
    unfold List.Nodup
    rw [List.pairwise_flatten]
    refine ⟨fun l hl => ?_, ?_⟩
    · obtain ⟨w, -, rfl⟩ := List.mem_map.1 hl
      unfold mineN
      rw [List.pairwise_map]
      refine List.Pairwise.imp ?_ (List.nodup_range (n := cntV w N W))
      intro a b hab h
      have : a * W = b * W := by omega
      exact hab (Nat.eq_of_mul_eq_mul_right (by omega) this)
    · rw [List.pairwise_map]
      refine List.Pairwise.imp_of_mem ?_ (List.nodup_range (n := W))
      intro a b ha hb hab x hx y hy hxy
      unfold mineN at hx hy
      obtain ⟨i, -, rfl⟩ := List.mem_map.1 hx
      obtain ⟨j, -, rfl⟩ := List.mem_map.1 hy
      have ha' := List.mem_range.1 ha
      have hb' := List.mem_range.1 hb
      have e1 : (a + i * W) % W = a := by rw [Nat.add_mul_mod_self_right, Nat.mod_eq_of_lt ha']
      have e2 : (b + j * W) % W = b := by rw [Nat.add_mul_mod_self_right, Nat.mod_eq_of_lt hb']
      rw [← hxy, e1] at e2
      exact hab e2
  refine (List.perm_ext_iff_of_nodup hnd List.nodup_range).2 fun v => ?_
  rw [List.mem_flatten, List.mem_range]
  constructor
  · rintro ⟨l, hl, hv⟩
    obtain ⟨w, -, rfl⟩ := List.mem_map.1 hl
    exact mineN_lt hW v hv
  · intro hv
    refine ⟨mineN (v % W) N W, List.mem_map.2 ⟨v % W, List.mem_range.2 (Nat.mod_lt _ (by omega)), rfl⟩, ?_⟩
    unfold mineN
    have hd := Nat.div_add_mod v W
    have e : v % W + v / W * W = v := by rw [Nat.mul_comm]; omega
    exact List.mem_map.2 ⟨v / W, List.mem_range.2 ((cntV_iff hW).2 (by rw [e]; exact hv)), e⟩
theorem sumWs_all (f : Nat → Nat) {N W : Nat} (hW : 1 ≤ W) : sumWs f N W W = ((List.range N).map f).sum := by
  unfold sumWs sumW
  have h := sum_flat f ((List.range W).map fun w => mineN w N W)
  rw [List.map_map] at h
  rw [← ((all_mine (N := N) hW).map f).sum_nat]
  exact h
theorem deg_sum (l : List Eg) : ∀ k, ((List.range k).map fun v => degL l v).sum = fromBelow l k := by
  intro k
  induction k with
  | zero => rw [fromBelow_zero]; rfl
  | succ k ih => rw [List.range_succ, List.map_append, List.sum_append, ih, fromBelow_succ]; simp
theorem out_sum {N W : Nat} {E : List Eg} (hG : InG N E) (hW : 1 ≤ W) : sumWs (fun v => (outH E v).length) N W W = E.length := by
  rw [sumWs_all _ hW, ← fromBelow_all hG, ← deg_sum]
  congr 1
  refine List.map_congr_left fun v _ => ?_
  unfold outH
  rw [hopsL_len, degL_srt]
theorem in_sum {N W : Nat} {E : List Eg} (hG : InG N E) (hW : 1 ≤ W) : sumWs (fun v => (inH E v).length) N W W = E.length := by
  have h := out_sum (N := N) (W := W) (E := srt cfE (revL E)) hG.rev.srt hW
  rw [srt_len] at h
  unfold revL at h
  rw [List.length_map] at h
  exact h
theorem sum_ones : ∀ l : List Nat, (l.map fun _ => 1).sum = l.length
  | [] => rfl
  | x :: l => by rw [List.map_cons, List.sum_cons, sum_ones l, List.length_cons]; omega
theorem cnt_sum (N W : Nat) (hW : 1 ≤ W) : sumWs (fun _ => 1) N W W = N := by
  rw [sumWs_all _ hW, sum_ones, List.length_range]
theorem sumW_one (w N W : Nat) : sumW (fun _ => 1) w N W = cntV w N W := by
  unfold sumW; rw [sum_ones, mineN_len]
end Go.Proofs.Ytcaolnpkpialdaa
