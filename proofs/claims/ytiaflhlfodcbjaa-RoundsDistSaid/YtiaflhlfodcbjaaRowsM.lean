/- Rows of hops: readable, and of the call's own; rows of the call's own made shorter. -/
import Derived.Test.YtiaflhlfodcbjaaSfE
import Derived.Test.YtiaflhlfodcbjaaMailR
import Derived.Test.YtiaflhlfodcbjaaMade
import Derived.Test.YtiaflhlfodcbjaaBoxed
import Derived.Deep.LoopGhost
import Derived.Deep.DeepCutAuto
import Derived.IntWalk
import Derived.Laws.OwnMore
namespace Go.Proofs.Ytiaflhlfodcbjaa
open Go.RowKit
theorem inf_hop : (Try.prog.info? 94).map (fun i => (i.zero, i.size, i.bytes)) = some (some (.agg #[.int .i64 0, .int .i64 0]), 2, 16) := by kernel_rfl
theorem hopsL_take_yes {E : List Eg} {k v : Nat} (h : k < E.length) (hv : E[k].1 = v) : hopsL (E.take (k + 1)) v = hopsL (E.take k) v ++ [E[k].2] := by
  unfold hopsL
  rw [List.take_succ_eq_append_getElem h, List.filter_append, List.map_append, List.filter_cons, if_pos (by simpa using hv)]; rfl
theorem hopsL_take_no {E : List Eg} {k v : Nat} (h : k < E.length) (hv : E[k].1 ≠ v) : hopsL (E.take (k + 1)) v = hopsL (E.take k) v := by
  unfold hopsL
  rw [List.take_succ_eq_append_getElem h, List.filter_append, List.map_append, List.filter_cons, if_neg (by simpa using hv)]; simp
theorem hopsL_take_len (E : List Eg) (k v : Nat) : (hopsL (E.take k) v).length ≤ k := by
  unfold hopsL
  rw [List.length_map]
  exact Nat.le_trans (List.length_filter_le _ _) (List.length_take_le _ _)
end Go.Proofs.Ytiaflhlfodcbjaa
namespace Go.Proofs.Ytiaflhlfodcbjaa
open Go.RowKit
/-- rows of hops that may be read, and lie in the blocks from lo on -/
def MemM (w : World) (lo g N : Nat) (R : List (List (Nat × Nat))) : Prop :=
  R.length = N ∧ ∀ (v : Nat) (r : List (Nat × Nat)), R[v]? = some r → ∃ p c, ∀ W : World, Agree w W lo w.heap.size → W.cell? ⟨g, v, none⟩ = some (.slice p r.length c) ∧ Sl W 2 (.slice p r.length c) r.length (mcs r)
/-- rows that may be read while block s is written -/
def ServeM (w : World) (g s : Nat) (R : List (List (Nat × Nat))) : Prop :=
  ∀ (v : Nat) (r : List (Nat × Nat)), R[v]? = some r → ∃ p c, ∀ W : World, w.grownBy W (some s) → W.cell? ⟨g, v, none⟩ = some (.slice p r.length c) ∧ Sl W 2 (.slice p r.length c) r.length (mcs r)
theorem MemM.serve {w1 w2 : World} {lo g N s : Nat} {R : List (List (Nat × Nat))} (h : MemM w1 lo g N R) (ha : Agree w1 w2 lo w1.heap.size) (hsz : w1.heap.size ≤ w2.heap.size) (hs : s < lo ∨ w1.heap.size ≤ s) : ServeM w2 g s R := fun v r hr => by
  obtain ⟨p, c, h2⟩ := h.2 v r hr
  exact ⟨p, c, fun W hW => h2 W (ha.trans (agree_grown hW hsz hs))⟩
/-- rows of hops of the call's own -/
structure OwnM (w : World) (B g N : Nat) (R : List (List (Nat × Nat))) (vs : List Value) : Prop where
  outer : w.ownsRow B 92 1 (.slice (some ⟨g, 0, none⟩) N N) N vs
  len : R.length = N
  inner : ∀ (v : Nat) (r : List (Nat × Nat)) (u : Value), R[v]? = some r → vs[v]? = some u → w.ownsRow (g + 1) 94 2 u r.length (mcs r)
  apart : ∀ (i j : Nat) (ui uj : Value) (k : Nat), i ≠ j → vs[i]? = some ui → vs[j]? = some uj → ui.ownBlock = some k → uj.ownBlock ≠ some k
theorem OwnM.alloc {w : World} {B g N : Nat} {R : List (List (Nat × Nat))} {vs : List Value} (h : OwnM w B g N R vs) (o : Obj) : OwnM (w.alloc o) B g N R vs :=
  ⟨h.outer.alloc o, h.len, fun v r u h1 h2 => (h.inner v r u h1 h2).alloc o, h.apart⟩
theorem OwnM.drew {w : World} {B g N : Nat} {R : List (List (Nat × Nat))} {vs : List Value} (h : OwnM w B g N R vs) : OwnM w.drew B g N R vs :=
  ⟨own_drew h.outer, h.len, fun v r u h1 h2 => own_drew (h.inner v r u h1 h2), h.apart⟩
theorem OwnM.vlen {w : World} {B g N : Nat} {R : List (List (Nat × Nat))} {vs : List Value} (h : OwnM w B g N R vs) : vs.length = N := by
  have := h.outer.1; omega
/-- one more hop in a row -/
theorem OwnM.push {w w3 : World} {B g N x : Nat} {R : List (List (Nat × Nat))} {vs : List Value} {u v' : Value} {r r' : List (Nat × Nat)} {n' : Nat} (h : OwnM w B g N R vs) (hr : R[x]? = some r) (hu : vs[x]? = some u)
    (hg : w.grownBy w3 u.ownBlock) (hown : w3.ownsRow (g + 1) 94 2 v' n' (mcs r')) (hn : n' = r'.length) (hb : v'.ownBlock = u.ownBlock ∨ v'.ownBlock = some w.heap.size) :
    OwnM (w3.setCell ⟨g, x, none⟩ v') B g N (R.set x r') (vs.set x v') := by
  subst hn
  have hx : x < R.length := (List.getElem?_eq_some_iff.1 hr).1
  have hxv : x < vs.length := (List.getElem?_eq_some_iff.1 hu).1
  have hug := (h.inner x r u hr hu).lt
  have hgs : g < w.heap.size := (h.outer.lt g rfl).2
  have h1 : w3.ownsRow B 92 1 (.slice (some ⟨g, 0, none⟩) N N) N vs := own_grown h.outer hg (fun k hk e => by cases hk; have := (hug g e).1; omega)
  refine ⟨(h1.stored x v').1, by rw [List.length_set]; exact h.len, ?_, ?_⟩
  · intro v q z hq hz
    rw [List.getElem?_set] at hq hz
    by_cases hv : x = v
    · subst hv
      rw [if_pos rfl, if_pos hx] at hq
      rw [if_pos rfl, if_pos hxv] at hz
      cases hq; cases hz
      exact own_setCell hown (by simp) _
    · rw [if_neg hv] at hq hz
      exact own_setCell (own_grown (h.inner v q z hq hz) hg (fun k hk e => h.apart x v u z k hv hu hz e hk)) (by simp) _
  · intro i j ui uj k hij hi hj hk
    rw [List.getElem?_set] at hi hj
    have hnew : ∀ m z, m ≠ x → vs[m]? = some z → z.ownBlock ≠ v'.ownBlock ∨ z.ownBlock = none := fun m z hm hz => by
      cases hzb : z.ownBlock with
      | none => exact .inr rfl
      | some k =>
        left
        intro e
        rcases hb with hb | hb
        · exact h.apart m x z u k hm hz hu hzb (hb.symm.trans e.symm)
        · rw [hb] at e
          cases e
          have hm2 : m < R.length := by have := (List.getElem?_eq_some_iff.1 hz).1; rw [h.vlen] at this; rw [h.len]; exact this
          have := ((h.inner m _ z (List.getElem?_eq_getElem hm2) hz).lt _ hzb).2
          omega
    by_cases hix : x = i
    · subst hix
      rw [if_pos rfl, if_pos hxv] at hi
      cases hi
      rw [if_neg hij] at hj
      intro e
      rcases hnew j uj (fun e => hij e.symm) hj with h2 | h2
      · exact h2 (e.trans hk.symm)
      · rw [h2] at e; cases e
    · rw [if_neg hix] at hi
      by_cases hjx : x = j
      · subst hjx
        rw [if_pos rfl, if_pos hxv] at hj
        cases hj
        intro e
        rcases hnew i ui (fun e => hix e.symm) hi with h2 | h2
        · exact h2 (hk.trans e.symm)
        · rw [h2] at hk; cases hk
      · rw [if_neg hjx] at hj
        exact h.apart i j ui uj k hij hi hj hk
theorem OwnM.memM {w : World} {B lo g N : Nat} {R : List (List (Nat × Nat))} {vs : List Value} (h : OwnM w B g N R vs) (hB : lo ≤ B) : MemM w lo g N R := by
  refine ⟨h.len, fun v r hr => ?_⟩
  have hv : v < vs.length := by rw [h.vlen, ← h.len]; exact (List.getElem?_eq_some_iff.1 hr).1
  have hu := List.getElem?_eq_getElem hv
  have ho := h.inner v r _ hr hu
  have hBg := (h.outer.lt g rfl).1
  have hout := h.outer
  have hvl := h.vlen
  generalize vs[v] = u at hu ho
  obtain ⟨p, c, rfl⟩ := own_slice ho
  refine ⟨p, c, fun W hW => ⟨?_, Sl.of_own (own_agree ho hW (by omega) (Nat.le_refl _))⟩⟩
  have hc := (own_agree hout hW hB (Nat.le_refl _)).cellAt v (by omega)
  rw [hu] at hc
  exact hc
def rowsL (N : Nat) (E : List Eg) : List (List (Nat × Nat)) := (List.range N).map (hopsL E)
theorem rowsL_len (N : Nat) (E : List Eg) : (rowsL N E).length = N := by simp [rowsL]
theorem rowsL_at {N v : Nat} (E : List Eg) (h : v < N) : (rowsL N E)[v]? = some (hopsL E v) := by simp [rowsL, h]
theorem rowsL_take {N : Nat} {E : List Eg} {k : Nat} (h : k < E.length) : rowsL N (E.take (k + 1)) = (rowsL N (E.take k)).set E[k].1 (hopsL (E.take k) E[k].1 ++ [E[k].2]) := by
  apply List.ext_getElem?
  intro v
  by_cases hv : v < N
  · rw [rowsL_at _ hv, List.getElem?_set, rowsL_len, rowsL_at _ hv]
    by_cases he : E[k].1 = v
    · rw [hopsL_take_yes h he, if_pos he, if_pos (by omega), he]
    · rw [hopsL_take_no h he, if_neg he]
  · rw [List.getElem?_eq_none (by rw [rowsL_len]; omega), List.getElem?_eq_none (by rw [List.length_set, rowsL_len]; omega)]
theorem rowsL_nil (N : Nat) : rowsL N [] = List.replicate N [] := by
  apply List.ext_getElem?
  intro v
  by_cases hv : v < N
  · rw [rowsL_at _ hv, List.getElem?_replicate, if_pos hv]; rfl
  · rw [List.getElem?_eq_none (by rw [rowsL_len]; omega), List.getElem?_eq_none (by rw [List.length_replicate]; omega)]
theorem OwnM.made {w : World} {B g N : Nat} (h : w.ownsRow B 92 1 (.slice (some ⟨g, 0, none⟩) N N) N (List.replicate N (.slice none 0 0))) : OwnM w B g N (rowsL N []) (List.replicate N (.slice none 0 0)) := by
  refine ⟨h, by rw [rowsL_len], fun v r u hr hu => ?_, fun i j ui uj k _ hi _ hk => ?_⟩
  · rw [rowsL_nil, List.getElem?_replicate] at hr
    rw [List.getElem?_replicate] at hu
    split at hr
    · rename_i hv
      rw [if_pos hv] at hu
      cases hr; cases hu
      exact World.ownsRow_nil _ _ _ _
    · cases hr
  · rw [List.getElem?_replicate] at hi
    split at hi
    · cases hi; cases hk
    · cases hi
end Go.Proofs.Ytiaflhlfodcbjaa
