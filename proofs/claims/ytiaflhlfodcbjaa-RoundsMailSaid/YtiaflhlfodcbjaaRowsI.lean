/- Rows of rows of integers: readable, and of the call's own. -/
import Derived.Test.YtiaflhlfodcbjaaBoxed
import Derived.Laws.OwnMore
namespace Go.Proofs.Ytiaflhlfodcbjaa
open Go.RowKit
/-- rows of numbers that may be read, and lie in the blocks from lo on -/
def MemN (w : World) (lo g N : Nat) (R : List (List Int)) : Prop :=
  R.length = N ∧ ∀ (v : Nat) (r : List Int), R[v]? = some r → ∃ p c, ∀ W : World, Agree w W lo w.heap.size → W.cell? ⟨g, v, none⟩ = some (.slice p r.length c) ∧ Sl W 1 (.slice p r.length c) r.length (its r)
/-- rows that may be read while block s is written -/
def ServeN (w : World) (g s : Nat) (R : List (List Int)) : Prop :=
  ∀ (v : Nat) (r : List Int), R[v]? = some r → ∃ p c, ∀ W : World, w.grownBy W (some s) → W.cell? ⟨g, v, none⟩ = some (.slice p r.length c) ∧ Sl W 1 (.slice p r.length c) r.length (its r)
theorem MemN.serve {w1 w2 : World} {lo g N s : Nat} {R : List (List Int)} (h : MemN w1 lo g N R) (ha : Agree w1 w2 lo w1.heap.size) (hsz : w1.heap.size ≤ w2.heap.size) (hs : s < lo ∨ w1.heap.size ≤ s) : ServeN w2 g s R := fun v r hr => by
  obtain ⟨p, c, h2⟩ := h.2 v r hr
  exact ⟨p, c, fun W hW => h2 W (ha.trans (agree_grown hW hsz hs))⟩
/-- rows of numbers of the call's own -/
structure OwnN (w : World) (B g I N : Nat) (R : List (List Int)) (vs : List Value) : Prop where
  outer : w.ownsRow B 38 1 (.slice (some ⟨g, 0, none⟩) N N) N vs
  len : R.length = N
  gi : g < I
  inner : ∀ (v : Nat) (r : List Int) (u : Value), R[v]? = some r → vs[v]? = some u → w.ownsRow I 3 1 u r.length (its r)
  apart : ∀ (i j : Nat) (ui uj : Value) (k : Nat), i ≠ j → vs[i]? = some ui → vs[j]? = some uj → ui.ownBlock = some k → uj.ownBlock ≠ some k
theorem OwnN.alloc {w : World} {B g I N : Nat} {R : List (List Int)} {vs : List Value} (h : OwnN w B g I N R vs) (o : Obj) : OwnN (w.alloc o) B g I N R vs :=
  ⟨h.outer.alloc o, h.len, h.gi, fun v r u h1 h2 => (h.inner v r u h1 h2).alloc o, h.apart⟩
theorem OwnN.drew {w : World} {B g I N : Nat} {R : List (List Int)} {vs : List Value} (h : OwnN w B g I N R vs) : OwnN w.drew B g I N R vs :=
  ⟨own_drew h.outer, h.len, h.gi, fun v r u h1 h2 => own_drew (h.inner v r u h1 h2), h.apart⟩
theorem OwnN.vlen {w : World} {B g I N : Nat} {R : List (List Int)} {vs : List Value} (h : OwnN w B g I N R vs) : vs.length = N := by
  have := h.outer.1; omega
/-- one more number in a row -/
theorem OwnN.push {w w3 : World} {B g I N x : Nat} {R : List (List Int)} {vs : List Value} {u v' : Value} {r r' : List Int} {n' : Nat} (h : OwnN w B g I N R vs) (hr : R[x]? = some r) (hu : vs[x]? = some u)
    (hg : w.grownBy w3 u.ownBlock) (hown : w3.ownsRow I 3 1 v' n' (its r')) (hn : n' = r'.length) (hb : v'.ownBlock = u.ownBlock ∨ v'.ownBlock = some w.heap.size) :
    OwnN (w3.setCell ⟨g, x, none⟩ v') B g I N (R.set x r') (vs.set x v') := by
  subst hn
  have hx : x < R.length := (List.getElem?_eq_some_iff.1 hr).1
  have hxv : x < vs.length := (List.getElem?_eq_some_iff.1 hu).1
  have hug := (h.inner x r u hr hu).lt
  have hgs : g < w.heap.size := (h.outer.lt g rfl).2
  have h1 : w3.ownsRow B 38 1 (.slice (some ⟨g, 0, none⟩) N N) N vs := own_grown h.outer hg (fun k hk e => by cases hk; have := (hug g e).1; have := h.gi; omega)
  refine ⟨(h1.stored x v').1, by rw [List.length_set]; exact h.len, h.gi, ?_, ?_⟩
  · intro v q z hq hz
    rw [List.getElem?_set] at hq hz
    by_cases hv : x = v
    · subst hv
      rw [if_pos rfl, if_pos hx] at hq
      rw [if_pos rfl, if_pos hxv] at hz
      cases hq; cases hz
      exact own_setCell hown (by exact h.gi) _
    · rw [if_neg hv] at hq hz
      exact own_setCell (own_grown (h.inner v q z hq hz) hg (fun k hk e => h.apart x v u z k hv hu hz e hk)) (by exact h.gi) _
  · intro i j ui uj k hij hi hj hk
    rw [List.getElem?_set] at hi hj
    have hnew : ∀ m z, m ≠ x → vs[m]? = some z → z.ownBlock ≠ v'.ownBlock ∨ z.ownBlock = none := fun m z hm hz => by
      cases hzb : z.ownBlock with
      | none => exact .inr rfl
      | some k =>
        left
        intro e
        rcases hb with hb | hb
        · exact h.apart m x z u k hm hz hu hzb (hb.symm.trans e.symm)
        · rw [hb] at e
          cases e
          have hm2 : m < R.length := by have := (List.getElem?_eq_some_iff.1 hz).1; rw [h.vlen] at this; rw [h.len]; exact this
          have := ((h.inner m _ z (List.getElem?_eq_getElem hm2) hz).lt _ hzb).2
          omega
    by_cases hix : x = i
    · subst hix
      rw [if_pos rfl, if_pos hxv] at hi
      cases hi
      rw [if_neg hij] at hj
      intro e
      rcases hnew j uj (fun e => hij e.symm) hj with h2 | h2
      · exact h2 (e.trans hk.symm)
      · rw [h2] at e; cases e
    · rw [if_neg hix] at hi
      by_cases hjx : x = j
      · subst hjx
        rw [if_pos rfl, if_pos hxv] at hj
        cases hj
        intro e
        rcases hnew i ui (fun e => hix e.symm) hi with h2 | h2
        · exact h2 (hk.trans e.symm)
        · rw [h2] at hk; cases hk
      · rw [if_neg hjx] at hj
        exact h.apart i j ui uj k hij hi hj hk
theorem OwnN.memN {w : World} {B lo g I N : Nat} {R : List (List Int)} {vs : List Value} (h : OwnN w B g I N R vs) (hB : lo ≤ B) : MemN w lo g N R := by
  refine ⟨h.len, fun v r hr => ?_⟩
  have hv : v < vs.length := by rw [h.vlen, ← h.len]; exact (List.getElem?_eq_some_iff.1 hr).1
  have hu := List.getElem?_eq_getElem hv
  have ho := h.inner v r _ hr hu
  have hBg := (h.outer.lt g rfl).1
  have hout := h.outer
  have hvl := h.vlen
  generalize vs[v] = u at hu ho
  obtain ⟨p, c, rfl⟩ := own_slice ho
  refine ⟨p, c, fun W hW => ⟨?_, Sl.of_own (own_agree ho hW (by have := h.gi; omega) (Nat.le_refl _))⟩⟩
  have hc := (own_agree hout hW hB (Nat.le_refl _)).cellAt v (by omega)
  rw [hu] at hc
  exact hc
theorem OwnN.made {w : World} {B g I N : Nat} (hI : g < I) (h : w.ownsRow B 38 1 (.slice (some ⟨g, 0, none⟩) N N) N (List.replicate N (.slice none 0 0))) : OwnN w B g I N (List.replicate N []) (List.replicate N (.slice none 0 0)) := by
  refine ⟨h, by rw [List.length_replicate], hI, fun v r u hr hu => ?_, fun i j ui uj k _ hi _ hk => ?_⟩
  · rw [List.getElem?_replicate] at hr
    rw [List.getElem?_replicate] at hu
    split at hr
    · rename_i hv
      rw [if_pos hv] at hu
      cases hr; cases hu
      exact World.ownsRow_nil _ _ _ _
    · cases hr
  · rw [List.getElem?_replicate] at hi
    split at hi
    · cases hi; cases hk
    · cases hi
end Go.Proofs.Ytiaflhlfodcbjaa
