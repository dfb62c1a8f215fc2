/- A worker's part of a graph, as bytes: plain laws. No program walked. -/
import Derived.Test.YtcaolnpkpialdaaInkO
import Derived.Test.YtcaolnpkpialdaaPGraph
import Derived.Test.YtcaolnpkpialdaaPOwner
namespace Go.Proofs.Ytcaolnpkpialdaa
open Go.RowKit Go.Sort Go.Proofs
theorem riseF_of : ∀ (l : List Nat) (a : Nat), l.Pairwise (fun x y => x ≤ y) → (∀ x ∈ l, a ≤ x ∧ x ≤ MaxN) → RiseF a l
  | [], _, _, _ => trivial
  | x :: l, a, hp, hb => by
    rw [List.pairwise_cons] at hp
    refine ⟨(hb x (by simp)).1, (hb x (by simp)).2, riseF_of l x hp.2 (fun y hy => ⟨hp.1 y hy, (hb y (by simp [hy])).2⟩)⟩
/-- hops in order -/
def HopOrd (l : List (Nat × Nat)) : Prop := l.Pairwise fun a b => a.1 < b.1 ∨ (a.1 = b.1 ∧ a.2 ≤ b.2)
/-- hops that may stand in a part -/
structure HopOk (N : Nat) (l : List (Nat × Nat)) : Prop where
  ord : HopOrd l
  tow : ∀ h ∈ l, h.1 < N ∧ h.2 < 10
  len : l.length ≤ 10
theorem hopsL_ord (E : List Eg) (v : Nat) : HopOrd (hopsL (srt cfE E) v) := by
  unfold HopOrd hopsL
  rw [List.pairwise_map]
  have h1 : ((srt cfE E).filter fun e => e.1 == v).Pairwise fun a b => leO cfE a b = true := (srt_sorted swoE E).filter _
  refine List.Pairwise.imp_of_mem ?_ h1
  intro a b ha hb h
  have e1 : a.1 = v := by simpa using (List.mem_filter.1 ha).2
  have e2 : b.1 = v := by simpa using (List.mem_filter.1 hb).2
  rcases (leE_iff a b).1 h with h | ⟨-, h⟩
  · omega
  · exact h
theorem hopsL_in {N : Nat} {E : List Eg} (hG : InG N E) (v : Nat) : ∀ h ∈ hopsL E v, h.1 < N ∧ h.2 < 10 := fun h hh => by
  have := hG _ (hop_edge.1 hh)
  exact this.2
theorem hopsL_le (E : List Eg) (v : Nat) : (hopsL E v).length ≤ E.length := by
  unfold hopsL
  rw [List.length_map]
  exact List.length_filter_le _ _
theorem hopOk_out {N : Nat} {E : List Eg} (hG : InG N E) (hE : E.length ≤ 10) (v : Nat) : HopOk N (hopsL (srt cfE E) v) :=
  ⟨hopsL_ord E v, hopsL_in hG.srt v, by have := hopsL_le (srt cfE E) v; rw [srt_len] at this; omega⟩
theorem HopOk.rise {N : Nat} {l : List (Nat × Nat)} (h : HopOk N l) (hN : N ≤ 200) : RiseF 0 (l.map (·.1)) := by
  refine riseF_of _ 0 ?_ ?_
  · rw [List.pairwise_map]
    exact h.ord.imp (fun {a b} h => by omega)
  · intro x hx
    obtain ⟨y, hy, rfl⟩ := List.mem_map.1 hx
    have := (h.tow y hy).1
    unfold MaxN; omega
theorem hopL_len {N : Nat} {l : List (Nat × Nat)} (h : HopOk N l) (hN : N ≤ 200) : (hopL l).length ≤ 210 := by
  have h1 := gapsF_len_le (l.map (·.1)) 0 (h.rise hN)
  have h2 := put_len10 (n := l.length) (by have := h.len; unfold U64; omega)
  have h3 := putsN_len (l.map (·.2)) (fun x hx => by obtain ⟨y, hy, rfl⟩ := List.mem_map.1 hx; have := (h.tow y hy).2; unfold U64; omega)
  have := h.len
  rw [List.length_map] at h1 h3
  unfold hopL
  rw [gapsL, List.length_append, List.length_append, List.length_map]; omega
/-- what a part's bytes hold -/
def inkS (w W N : Nat) (vs : List Nat) (f h : Nat → List (Nat × Nat)) : List Nat := putsN [w, W, N] ++ vs.flatMap fun v => hopL (f v) ++ hopL (h v)
theorem inkS_snoc (w W N : Nat) (vs : List Nat) (v : Nat) (f h : Nat → List (Nat × Nat)) : inkS w W N (vs ++ [v]) f h = inkS w W N vs f h ++ hopL (f v) ++ hopL (h v) := by
  simp [inkS, List.append_assoc]
theorem inkS_len {w W N : Nat} {f h : Nat → List (Nat × Nat)} (hw : w < 1000) (hW : W < 1000) (hN : N ≤ 200) (hf : ∀ v, HopOk N (f v)) (hh : ∀ v, HopOk N (h v)) : ∀ (vs : List Nat), (inkS w W N vs f h).length ≤ 30 + 420 * vs.length := by
  intro vs
  have h1 := putsN_len [w, W, N] (fun x hx => by simp at hx; unfold U64; omega)
  have h2 : ∀ vs : List Nat, (vs.flatMap fun v => hopL (f v) ++ hopL (h v)).length ≤ 420 * vs.length := by
    intro vs
    induction vs with
    | nil => simp
    | cons v vs ih =>
      rw [List.flatMap_cons, List.length_append, List.length_append, List.length_cons]
      have a1 := hopL_len (hf v) hN
      have a2 := hopL_len (hh v) hN
      omega
  have := h2 vs
  unfold inkS
  rw [List.length_append]
  simp only [List.length_cons, List.length_nil] at h1
  omega
theorem allB_appS {a b : List Nat} (ha : AllB a) (hb : AllB b) : AllB (a ++ b) := fun x hx => by
  rcases List.mem_append.1 hx with h | h
  · exact ha x h
  · exact hb x h
theorem putsN_bytes (l : List Nat) : AllB (putsN l) := fun x hx => by
  obtain ⟨m, _, h⟩ := List.mem_flatMap.1 hx
  exact put_bytes _ _ (Nat.le_refl _) x h
theorem hopL_bytes (l : List (Nat × Nat)) : AllB (hopL l) := allB_appS (gapsL_bytes _) (putsN_bytes _)
theorem inkS_bytes (w W N : Nat) (vs : List Nat) (f h : Nat → List (Nat × Nat)) : AllB (inkS w W N vs f h) := fun x hx => by
  rcases List.mem_append.1 hx with hx | hx
  · exact putsN_bytes _ x hx
  · obtain ⟨v, -, hx⟩ := List.mem_flatMap.1 hx
    rcases List.mem_append.1 hx with hx | hx
    · exact hopL_bytes _ x hx
    · exact hopL_bytes _ x hx
/-- a worker's vertices -/
def mineN (w N W : Nat) : List Nat := (List.range (cntV w N W)).map fun k => w + k * W
theorem mineN_int (w N W : Nat) : mineL w N W = (mineN w N W).map fun (x : Nat) => (x : Int) := by
  unfold mineL mineN; rw [List.map_map]; rfl
theorem mineN_len (w N W : Nat) : (mineN w N W).length = cntV w N W := by simp [mineN]
theorem mineN_lt {w N W : Nat} (hW : 1 ≤ W) : ∀ v ∈ mineN w N W, v < N := fun v hv => by
  unfold mineN at hv
  obtain ⟨k, hk, rfl⟩ := List.mem_map.1 hv
  exact (cntV_iff hW).1 (List.mem_range.1 hk)
theorem cntV_leN {w N W : Nat} (hW : 1 ≤ W) : cntV w N W ≤ N := by
  by_cases h : cntV w N W = 0
  · omega
  · have h1 := (cntV_iff (w := w) (n := N) (k := cntV w N W - 1) hW).1 (by omega)
    have h2 : (cntV w N W - 1) * 1 ≤ (cntV w N W - 1) * W := Nat.mul_le_mul_left _ hW
    omega
/-- out of a vertex; into it -/
def outH (E : List Eg) (v : Nat) : List (Nat × Nat) := hopsL (srt cfE E) v
def inH (E : List Eg) (v : Nat) : List (Nat × Nat) := hopsL (srt cfE (srt cfE (revL E))) v
theorem outH_ok {N : Nat} {E : List Eg} (hG : InG N E) (hE : E.length ≤ 10) (v : Nat) : HopOk N (outH E v) := hopOk_out hG hE v
theorem inH_ok {N : Nat} {E : List Eg} (hG : InG N E) (hE : E.length ≤ 10) (v : Nat) : HopOk N (inH E v) := hopOk_out hG.rev.srt (by rw [srt_len]; unfold revL; rw [List.length_map]; exact hE) v
/-- a part's payload -/
def partL (w W N : Nat) (E : List Eg) : List Nat := inkS w W N (mineN w N W) (outH E) (inH E)
theorem partL_len {w W N : Nat} {E : List Eg} (hG : InG N E) (hE : E.length ≤ 10) (hw : w < W) (hW : W ≤ 8) (hN : N ≤ 8) : (partL w W N E).length ≤ 20000 := by
  have := inkS_len (w := w) (W := W) (N := N) (f := outH E) (h := inH E) (by omega) (by omega) (by omega) (outH_ok hG hE) (inH_ok hG hE) (mineN w N W)
  have h2 := cntV_leN (w := w) (N := N) (W := W) (by omega)
  rw [mineN_len] at this
  unfold partL; omega
theorem partL_min (w W N : Nat) (E : List Eg) : 3 ≤ (partL w W N E).length := by
  unfold partL inkS
  rw [List.length_append]
  have e : putsN [w, W, N] = put w ++ (put W ++ put N) := by simp [putsN]
  rw [e, List.length_append, List.length_append]
  have := put_pos w; have := put_pos W; have := put_pos N
  omega
end Go.Proofs.Ytcaolnpkpialdaa
