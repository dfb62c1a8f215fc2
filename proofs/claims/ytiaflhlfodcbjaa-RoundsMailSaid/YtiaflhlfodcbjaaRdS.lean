/- What a round keeps while it says; rows of mail that are said. -/
import Derived.Test.YtiaflhlfodcbjaaRdC
import Derived.Test.YtiaflhlfodcbjaaRdP
namespace Go.Proofs.Ytiaflhlfodcbjaa
open Go.RowKit
/-- all below gm, and all below I but gm, stays -/
def KeepM (gm I : Nat) (w w' : World) : Prop := Below gm w w' ∧ ∀ k, k < I → k ≠ gm → w'.heap[k]? = w.heap[k]?
theorem KeepM.refl (gm I : Nat) (w : World) : KeepM gm I w w := ⟨Below.refl _ _, fun _ _ _ => rfl⟩
theorem KeepM.trans {gm I : Nat} {w w1 w2 : World} (h : KeepM gm I w w1) (h2 : KeepM gm I w1 w2) : KeepM gm I w w2 := ⟨h.1.trans h2.1, fun k h3 h4 => (h2.2 k h3 h4).trans (h.2 k h3 h4)⟩
theorem KeepM.of_below {gm I B : Nat} {w w' : World} (h : Below B w w') (hB : I ≤ B) (hg : gm ≤ B) : KeepM gm I w w' := ⟨h.mono hg, fun k h3 _ => h.block k (by omega)⟩
theorem KeepM.size {gm I : Nat} {w w' : World} (h : KeepM gm I w w') : w.heap.size ≤ w'.heap.size := h.1.size
theorem KeepM.bx {gm I g : Nat} {w w' : World} {cs : List Value} (h : KeepM gm I w w') (hb : Bx w g cs) (hg : g < I) (hne : g ≠ gm) : Bx w' g cs := by
  obtain ⟨t, hb⟩ := hb
  exact ⟨t, (h.2 g hg hne).trans hb⟩
theorem KeepM.setCell {gm I : Nat} {w w' : World} (h : KeepM gm I w w') (i : Nat) (u : Value) : KeepM gm I w (w'.setCell ⟨gm, i, none⟩ u) := by
  refine ⟨h.1.setCell (p := ⟨gm, i, none⟩) (Nat.le_refl _) u, fun k h3 h4 => ?_⟩
  rw [← h.2 k h3 h4]
  exact heap_setCell_other w' _ k u (fun e => h4 (by first | exact e | exact e.symm))
theorem KeepM.grown {gm I : Nat} {w w1 w2 : World} {o : Option Nat} (h : KeepM gm I w w1) (hg : w1.grownBy w2 o) (ho : ∀ k, o = some k → I ≤ k) (hI : I ≤ w1.heap.size) (hgm : gm < I) : KeepM gm I w w2 :=
  ⟨h.1.grown hg (by omega) (fun k hk => by have := ho k hk; omega), fun k h3 h4 => (hg.block k (by omega) (fun e => by have := ho k e.symm; omega)).trans (h.2 k h3 h4)⟩
theorem OwnN.later {w w' : World} {B g I N : Nat} {R : List (List Int)} {vs : List Value} (h : OwnN w B g I N R vs) (hb : Below w.heap.size w w') : OwnN w' B g I N R vs :=
  ⟨own_later h.outer hb, h.len, h.gi, fun v r u h1 h2 => own_later (h.inner v r u h1 h2) hb, h.apart⟩
theorem its_snoc1 (l : List Int) (x : Int) : its (l ++ [x]) = its l ++ [Value.int .i64 x] := by simp [its]
/-- rows of mail: what is said to each vertex -/
def rowsB (N : Nat) (ms : List (Nat × Int)) : List (List Int) := (List.range N).map (boxOf ms)
theorem rowsB_len (N : Nat) (ms : List (Nat × Int)) : (rowsB N ms).length = N := by simp [rowsB]
theorem rowsB_at {N t : Nat} (ms : List (Nat × Int)) (h : t < N) : (rowsB N ms)[t]? = some (boxOf ms t) := by simp [rowsB, h]
theorem boxOf_snoc (ms : List (Nat × Int)) (t x : Nat) (m : Int) : boxOf (ms ++ [(t, m)]) x = if t = x then boxOf ms x ++ [m] else boxOf ms x := by
  unfold boxOf
  rw [List.filter_append]
  by_cases e : t = x
  · subst e; simp
  · simp [e]
theorem boxOf_len (ms : List (Nat × Int)) (t : Nat) : (boxOf ms t).length ≤ ms.length := by
  unfold boxOf; rw [List.length_map]; exact List.length_filter_le _ _
theorem rowsB_snoc {N t : Nat} (ms : List (Nat × Int)) (m : Int) (ht : t < N) : rowsB N (ms ++ [(t, m)]) = (rowsB N ms).set t (boxOf ms t ++ [m]) := by
  apply List.ext_getElem?
  intro v
  by_cases hv : v < N
  · rw [rowsB_at _ hv, List.getElem?_set, rowsB_len, rowsB_at _ hv, boxOf_snoc]
    by_cases e : t = v
    · rw [if_pos e, if_pos e, if_pos ht, e]
    · rw [if_neg e, if_neg e]
  · rw [List.getElem?_eq_none (by rw [rowsB_len]; omega), List.getElem?_eq_none (by rw [List.length_set, rowsB_len]; omega)]
theorem rowsB_nil (N : Nat) : rowsB N [] = List.replicate N [] := by
  apply List.ext_getElem?
  intro v
  by_cases hv : v < N
  · rw [rowsB_at _ hv, List.getElem?_replicate, if_pos hv]; rfl
  · rw [List.getElem?_eq_none (by rw [rowsB_len]; omega), List.getElem?_eq_none (by rw [List.length_replicate]; omega)]
/-- what one way says -/
def wayMs (gs : Bool) (fr v tt : Nat) (m : Int) : List (Nat × Int) := if gs && fr == v then [(tt, m)] else []
theorem eMsgs_ways (kind phase v : Nat) (x : Int) (e : Eg) : eMsgs kind phase v x e = wayMs (wayO kind phase) e.1 v e.2.1 (sayF kind x e.2.2) ++ wayMs (wayI kind phase) e.2.1 v e.1 (sayF kind x e.2.2) := rfl
theorem wayMs_len (gs : Bool) (fr v tt : Nat) (m : Int) : (wayMs gs fr v tt m).length ≤ 1 := by unfold wayMs; split <;> simp
/-- no row lies in block g -/
def NotIn (vs : List Value) (g : Nat) : Prop := ∀ (j : Nat) (u : Value), vs[j]? = some u → u.ownBlock ≠ some g
theorem NotIn.set {vs : List Value} {g x H : Nat} {u v' : Value} (h : NotIn vs g) (hu : vs[x]? = some u) (hb : v'.ownBlock = u.ownBlock ∨ v'.ownBlock = some H) (hH : g < H) : NotIn (vs.set x v') g := fun j z hz => by
  rw [List.getElem?_set] at hz
  by_cases e : x = j
  · subst e
    rw [if_pos rfl, if_pos (List.getElem?_eq_some_iff.1 hu).1] at hz
    cases hz
    rcases hb with hb | hb
    · rw [hb]; exact h x u hu
    · rw [hb]; intro e; have := Option.some.inj e; omega
  · rw [if_neg e] at hz; exact h j z hz
theorem NotIn.new {w : World} {B g I N : Nat} {R : List (List Int)} {vs : List Value} (h : OwnN w B g I N R vs) {H : Nat} (hH : w.heap.size ≤ H) : NotIn vs H := fun j u hu e => by
  have hj : j < vs.length := (List.getElem?_eq_some_iff.1 hu).1
  rw [h.vlen, ← h.len] at hj
  have := ((h.inner j _ u (List.getElem?_eq_getElem hj) hu).lt _ e).2
  omega
/-- the ways of an edge, taken one by one -/
def wm2 (A B : List (Nat × Int)) (i : Nat) : List (Nat × Int) := if i = 0 then [] else if i = 1 then A else A ++ B
/-- the cells of a round -/
def rCells (N : Nat) (p : Option Addr) (n c kind : Nat) (src : Int) (st ph : Nat) (pv : Option Addr) (cv gm : Nat) : List Value :=
  [.int .i64 (N : Int), .slice p n c, .int .i64 (kind : Int), .int .i64 src, .int .i64 (st : Int), .int .i64 (ph : Int), .bool false, .bool false, .slice pv N cv, .slice (some ⟨gm, 0, none⟩) N N, .int .i64 0]
end Go.Proofs.Ytiaflhlfodcbjaa
