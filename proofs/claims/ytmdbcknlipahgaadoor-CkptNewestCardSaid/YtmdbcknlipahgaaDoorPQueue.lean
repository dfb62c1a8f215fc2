/- A run of mail as bytes: plain laws. No program walked. -/
import Derived.Test.YtmdbcknlipahgaaDoorPGaps
import Derived.Test.YtmdbcknlipahgaaDoorPSort
namespace Go.Proofs.YtmdbcknlipahgaaDoor
open Go.RowKit Go.Sort Go.Proofs
/-- mail that may be -/
def okM (m : Nat × Nat) : Prop := m.1 < 200 ∧ m.2 ≤ 4398046511104
/-- the second numbers as bytes -/
def putsL (l : List (Nat × Nat)) : List Nat := l.flatMap fun m => put m.2
/-- a run's bytes -/
def packL (l : List (Nat × Nat)) : List Nat := gapsL (l.map (·.1)) ++ putsL l
/-- a run -/
structure RunOk (l : List (Nat × Nat)) : Prop where
  pos : 0 < l.length
  le : l.length ≤ 1000
  ord : l.Pairwise fun a b => leO cfM a b = true
  ok : ∀ m ∈ l, okM m
theorem okM_u64 {m : Nat × Nat} (h : okM m) : m.2 < U64 := by unfold U64; have := h.2; omega
theorem rise_sorted : ∀ (l : List (Nat × Nat)) (a : Nat), l.Pairwise (fun a b => leO cfM a b = true) → (∀ m ∈ l, okM m) → (∀ m ∈ l, a ≤ m.1) → RiseF a (l.map (·.1))
  | [], _, _, _, _ => trivial
  | m :: l, a, hp, ho, ha => by
    rw [List.pairwise_cons] at hp
    refine ⟨ha m (by simp), by have := (ho m (by simp)).1; show m.1 ≤ MaxN; unfold MaxN; omega, rise_sorted l m.1 hp.2 (fun x hx => ho x (by simp [hx])) (fun x hx => ?_)⟩
    have := (leM_iff _ _).1 (hp.1 x hx)
    omega
theorem RunOk.rise {l : List (Nat × Nat)} (h : RunOk l) : RiseF 0 (l.map (·.1)) := rise_sorted l 0 h.ord h.ok (fun _ _ => Nat.zero_le _)
theorem putsL_bytes (l : List (Nat × Nat)) : AllB (putsL l) := fun x hx => by
  obtain ⟨m, _, h⟩ := List.mem_flatMap.1 hx
  exact put_bytes _ _ (Nat.le_refl _) x h
theorem packL_bytes (l : List (Nat × Nat)) : AllB (packL l) := fun x hx => by
  rcases List.mem_append.1 hx with h | h
  · exact gapsL_bytes _ x h
  · exact putsL_bytes _ x h
theorem putsL_len : ∀ (l : List (Nat × Nat)), (∀ m ∈ l, okM m) → (putsL l).length ≤ 10 * l.length
  | [], _ => Nat.le_refl _
  | m :: l, h => by
    have h1 := putsL_len l (fun x hx => h x (by simp [hx]))
    have h2 := put_len10 (okM_u64 (h m (by simp)))
    have e : (putsL (m :: l)).length = (put m.2).length + (putsL l).length := by simp [putsL]
    rw [e, List.length_cons]; omega
theorem gapsL_len_le {l : List Nat} (h : RiseF 0 l) (hl : l.length ≤ 2000) : (gapsL l).length ≤ 10 * l.length + 10 := by
  have h1 := gapsF_len_le l 0 h
  have h2 := put_len10 (n := l.length) (by unfold U64; omega)
  rw [gapsL, List.length_append]; omega
theorem RunOk.len_le {l : List (Nat × Nat)} (h : RunOk l) : (packL l).length ≤ 20 * l.length + 10 := by
  have h1 := putsL_len l h.ok
  have h2 := gapsL_len_le h.rise (by rw [List.length_map]; have := h.le; omega)
  rw [List.length_map] at h2
  rw [packL, List.length_append]; omega
/-- where the second number of the k-th piece begins -/
def offL (l : List (Nat × Nat)) (k : Nat) : Nat := (gapsL (l.map (·.1))).length + (putsL (l.take k)).length
theorem putsL_succ {l : List (Nat × Nat)} {k : Nat} (h : k < l.length) : putsL (l.take (k + 1)) = putsL (l.take k) ++ put l[k].2 := by
  unfold putsL
  rw [List.take_succ_eq_append_getElem h, List.flatMap_append]
  simp only [List.flatMap_cons, List.flatMap_nil, List.append_nil]
theorem offL_zero (l : List (Nat × Nat)) : offL l 0 = (gapsL (l.map (·.1))).length := by simp [offL, putsL]
theorem offL_succ {l : List (Nat × Nat)} {k : Nat} (h : k < l.length) : offL l (k + 1) = offL l k + (put l[k].2).length := by
  unfold offL putsL
  rw [List.take_succ_eq_append_getElem h, List.flatMap_append, List.length_append]
  simp; omega
theorem offL_end (l : List (Nat × Nat)) : offL l l.length = (packL l).length := by
  unfold offL packL
  rw [List.take_length, List.length_append]
theorem offL_le (l : List (Nat × Nat)) (k : Nat) : offL l k ≤ (packL l).length := by
  unfold offL packL
  rw [List.length_append]
  have e : putsL l = putsL (l.take k) ++ putsL (l.drop k) := by unfold putsL; rw [← List.flatMap_append, List.take_append_drop]
  rw [e, List.length_append]; omega
theorem drop_off {l : List (Nat × Nat)} {k : Nat} (h : k < l.length) : (packL l).drop (offL l k) = put l[k].2 ++ putsL (l.drop (k + 1)) := by
  unfold packL offL
  have e : putsL l = putsL (l.take k) ++ (put l[k].2 ++ putsL (l.drop (k + 1))) := by
    have e1 : l = l.take k ++ l[k] :: l.drop (k + 1) := by rw [← List.drop_eq_getElem_cons h, List.take_append_drop]
    have e2 : putsL l = putsL (l.take k ++ l[k] :: l.drop (k + 1)) := congrArg putsL e1
    rw [e2]
    unfold putsL
    rw [List.flatMap_append, List.flatMap_cons]
  rw [e, List.drop_append, List.drop_eq_nil_of_le (by omega), Nat.add_sub_cancel_left, List.nil_append, List.drop_left]
theorem get_off {l : List (Nat × Nat)} {k : Nat} (h : k < l.length) (ho : okM l[k]) : getL ((packL l).drop (offL l k)) = (l[k].2, (put l[k].2).length, 0) := by
  rw [drop_off h]
  exact getL_put (okM_u64 ho) _
theorem RunOk.ungap {l : List (Nat × Nat)} (h : RunOk l) : ungapL (packL l) = (l.map (·.1), (gapsL (l.map (·.1))).length, 0) :=
  ungapL_gapsL (by rw [List.length_map]; have := h.le; omega) h.rise _
theorem srt_self {l : List (Nat × Nat)} (h : l.Pairwise fun a b => leO cfM a b = true) : srt cfM l = l := srt_unique swoM totM (List.Perm.refl l) h
theorem srt_run {l : List (Nat × Nat)} (h0 : 0 < l.length) (h1 : l.length ≤ 1000) (ho : ∀ m ∈ l, okM m) : RunOk (srt cfM l) :=
  ⟨by rw [srt_len]; exact h0, by rw [srt_len]; exact h1, srt_sorted swoM l, fun m hm => ho m ((srt_perm (cf := cfM) l).mem_iff.1 hm)⟩
end Go.Proofs.YtmdbcknlipahgaaDoor
