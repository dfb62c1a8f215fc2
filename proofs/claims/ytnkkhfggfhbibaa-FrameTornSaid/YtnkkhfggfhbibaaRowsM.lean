/- Rows of hops: readable, and of the call's own; rows of the call's own made shorter. -/
import Derived.Test.YtnkkhfggfhbibaaGLaw
import Derived.Test.YtnkkhfggfhbibaaPosts
import Derived.Test.YtnkkhfggfhbibaaTimes
import Derived.Test.YtnkkhfggfhbibaaHops
import Derived.Test.YtnkkhfggfhbibaaDeg
import Derived.Laws.OwnMore
namespace Go.Proofs.Ytnkkhfggfhbibaa
open Go.RowKit
def bls (l : List Bool) : List Value := l.map Value.bool
theorem bls_len (l : List Bool) : (bls l).length = l.length := by simp [bls]
theorem bls_set (l : List Bool) (i : Nat) (b : Bool) : bls (l.set i b) = (bls l).set i (.bool b) := by simp [bls, List.map_set]
theorem bls_at {l : List Bool} {i : Nat} {b : Bool} (h : l[i]? = some b) : (bls l)[i]? = some (.bool b) := by simp [bls, h]
theorem bls_rep (n : Nat) (b : Bool) : bls (List.replicate n b) = List.replicate n (.bool b) := by simp [bls]
theorem nts_append (l r : List Nat) : nts (l ++ r) = nts l ++ nts r := by simp [nts]
theorem grown_trans {w w1 w2 : World} {r : Option Nat} (h : w.grownBy w1 r) (h2 : w1.grownBy w2 r) : w.grownBy w2 r :=
  ⟨h2.os.trans h.os, h2.tape.trans h.tape, h2.output.trans h.output, Nat.le_trans h.size h2.size, fun k hk hr => (h2.block k (Nat.lt_of_lt_of_le hk h.size) hr).trans (h.block k hk hr)⟩
theorem grown_set {w : World} {s i : Nat} {u : Value} : w.grownBy (w.setCell ⟨s, i, none⟩ u) (some s) :=
  ⟨rfl, rfl, rfl, by simp, fun k _ hk => heap_setCell_other w ⟨s, i, none⟩ k u (fun e => hk (by simp [e]))⟩
theorem grown_belowS {w w' : World} {s : Nat} (hb : Below w.heap.size w w') : w.grownBy w' (some s) :=
  ⟨hb.os, hb.tape, hb.output, hb.size, fun k hk _ => hb.block k hk⟩
theorem grown_of_below {B : Nat} {w w' : World} {s : Nat} (hb : Below B w w') (hB : w.heap.size ≤ B) : w.grownBy w' (some s) :=
  ⟨hb.os, hb.tape, hb.output, hb.size, fun k hk _ => hb.block k (by omega)⟩
/-- growing a row that lies behind w: w itself is as it was -/
theorem grown_new {w w1 w2 : World} {s : Nat} {o : Option Nat} (h : w.grownBy w1 (some s)) (h2 : w1.grownBy w2 o) (ho : ∀ k, o = some k → w.heap.size ≤ k) : w.grownBy w2 (some s) :=
  ⟨h2.os.trans h.os, h2.tape.trans h.tape, h2.output.trans h.output, Nat.le_trans h.size h2.size, fun k hk hr => (h2.block k (Nat.lt_of_lt_of_le hk h.size) (fun e => by have := ho k e.symm; omega)).trans (h.block k hk hr)⟩
/-- the last piece is taken off -/
theorem own_shrink {w : World} {B : Nat} {e : TypeId} {size : Nat} {p : Option Addr} {c n : Nat} {xs us : List Value} (h : w.ownsRow B e size (.slice p (n + 1) c) (n + 1) (xs ++ us)) (hu : us.length = size) : w.ownsRow B e size (.slice p n c) n xs := by
  have hl := h.1
  rw [List.length_append, hu, Nat.succ_mul] at hl
  refine ⟨by omega, ?_⟩
  rcases h.2 with ⟨_, h1⟩ | ⟨g, cap, cur, h1, h2, h3, h4, h5, h6, h7⟩
  · omega
  · cases h1
    refine .inr ⟨g, c, cur, rfl, h2, h3, by omega, h5, h6, ?_⟩
    have h8 : (cur.toList.take ((n + 1) * size)).take (n * size) = (xs ++ us).take (n * size) := by rw [h7]
    rw [List.take_take, Nat.min_eq_left (Nat.mul_le_mul_right _ (Nat.le_succ n)), show n * size = xs.length from by omega, List.take_left] at h8
    rw [show n * size = xs.length from by omega]
    exact h8
theorem own_ptr {w : World} {B : Nat} {e : TypeId} {size : Nat} {p : Option Addr} {c n m : Nat} {xs : List Value} (h : w.ownsRow B e size (.slice p n c) m xs) (hm : 0 < m) : ∃ g, p = some ⟨g, 0, none⟩ ∧ n = m ∧ m ≤ c ∧ c ≤ 9223372036854775807 := by
  rcases h.2 with ⟨_, h1⟩ | ⟨g, cap, cur, h1, h2, h3, h4, h5, h6, h7⟩
  · omega
  · cases h1
    exact ⟨g, rfl, rfl, h4, by unfold maxLen at h5; omega⟩
theorem own_setCell_ne {w : World} {B : Nat} {e : TypeId} {size : Nat} {v : Value} {n : Nat} {xs : List Value} (h : w.ownsRow B e size v n xs) {a : Addr} (ha : v.ownBlock ≠ some a.block) (u : Value) : (w.setCell a u).ownsRow B e size v n xs := by
  refine ⟨h.1, ?_⟩
  rcases h.2 with hn | ⟨g, cap, cur, rfl, h1, h2, h3⟩
  · exact .inl hn
  · exact .inr ⟨g, cap, cur, rfl, h1, by rw [Below.heap_setCell _ _ _ _ (fun e => ha (by rw [← e]; rfl))]; exact h2, h3⟩
/-- a world that holds what w holds in the blocks from lo to hi -/
def Agree (w W : World) (lo hi : Nat) : Prop := ∀ b, lo ≤ b → b < hi → W.heap[b]? = w.heap[b]?
theorem agree_below {w W : World} {B lo hi : Nat} (h : Below B w W) (hB : hi ≤ B) : Agree w W lo hi := fun b _ hb => h.block b (by omega)
theorem Agree.trans {w w1 w2 : World} {lo hi : Nat} (h : Agree w w1 lo hi) (h2 : Agree w1 w2 lo hi) : Agree w w2 lo hi := fun b h3 h4 => (h2 b h3 h4).trans (h b h3 h4)
theorem agree_grown {w W : World} {s lo hi : Nat} (h : w.grownBy W (some s)) (hhi : hi ≤ w.heap.size) (hs : s < lo ∨ hi ≤ s) : Agree w W lo hi := fun b h1 h2 => h.block b (by omega) (fun e => by cases e; omega)
/-- rows of hops that may be read, and lie in the blocks from lo on -/
def MemM (w : World) (lo g N : Nat) (R : List (List (Nat × Nat))) : Prop :=
  R.length = N ∧ ∀ (v : Nat) (r : List (Nat × Nat)), R[v]? = some r → ∃ p c, ∀ W : World, Agree w W lo w.heap.size → W.cell? ⟨g, v, none⟩ = some (.slice p r.length c) ∧ Sl W 2 (.slice p r.length c) r.length (mcs r)
/-- rows that may be read while block s is written -/
def ServeM (w : World) (g s : Nat) (R : List (List (Nat × Nat))) : Prop :=
  ∀ (v : Nat) (r : List (Nat × Nat)), R[v]? = some r → ∃ p c, ∀ W : World, w.grownBy W (some s) → W.cell? ⟨g, v, none⟩ = some (.slice p r.length c) ∧ Sl W 2 (.slice p r.length c) r.length (mcs r)
theorem MemM.serve {w1 w2 : World} {lo g N s : Nat} {R : List (List (Nat × Nat))} (h : MemM w1 lo g N R) (ha : Agree w1 w2 lo w1.heap.size) (hsz : w1.heap.size ≤ w2.heap.size) (hs : s < lo ∨ w1.heap.size ≤ s) : ServeM w2 g s R := fun v r hr => by
  obtain ⟨p, c, h2⟩ := h.2 v r hr
  exact ⟨p, c, fun W hW => h2 W (ha.trans (agree_grown hW hsz hs))⟩
/-- rows of hops of the call's own -/
structure OwnM (w : World) (B g N : Nat) (R : List (List (Nat × Nat))) (vs : List Value) : Prop where
  outer : w.ownsRow B 60 1 (.slice (some ⟨g, 0, none⟩) N N) N vs
  len : R.length = N
  inner : ∀ (v : Nat) (r : List (Nat × Nat)) (u : Value), R[v]? = some r → vs[v]? = some u → w.ownsRow (g + 1) 64 2 u r.length (mcs r)
  apart : ∀ (i j : Nat) (ui uj : Value) (k : Nat), i ≠ j → vs[i]? = some ui → vs[j]? = some uj → ui.ownBlock = some k → uj.ownBlock ≠ some k
theorem OwnM.alloc {w : World} {B g N : Nat} {R : List (List (Nat × Nat))} {vs : List Value} (h : OwnM w B g N R vs) (o : Obj) : OwnM (w.alloc o) B g N R vs :=
  ⟨h.outer.alloc o, h.len, fun v r u h1 h2 => (h.inner v r u h1 h2).alloc o, h.apart⟩
theorem OwnM.drew {w : World} {B g N : Nat} {R : List (List (Nat × Nat))} {vs : List Value} (h : OwnM w B g N R vs) : OwnM w.drew B g N R vs :=
  ⟨own_drew h.outer, h.len, fun v r u h1 h2 => own_drew (h.inner v r u h1 h2), h.apart⟩
theorem OwnM.vlen {w : World} {B g N : Nat} {R : List (List (Nat × Nat))} {vs : List Value} (h : OwnM w B g N R vs) : vs.length = N := by
  have := h.outer.1; omega
/-- one more hop in a row -/
theorem OwnM.push {w w3 : World} {B g N x : Nat} {R : List (List (Nat × Nat))} {vs : List Value} {u v' : Value} {r r' : List (Nat × Nat)} {n' : Nat} (h : OwnM w B g N R vs) (hr : R[x]? = some r) (hu : vs[x]? = some u)
    (hg : w.grownBy w3 u.ownBlock) (hown : w3.ownsRow (g + 1) 64 2 v' n' (mcs r')) (hn : n' = r'.length) (hb : v'.ownBlock = u.ownBlock ∨ v'.ownBlock = some w.heap.size) :
    OwnM (w3.setCell ⟨g, x, none⟩ v') B g N (R.set x r') (vs.set x v') := by
  subst hn
  have hx : x < R.length := (List.getElem?_eq_some_iff.1 hr).1
  have hxv : x < vs.length := (List.getElem?_eq_some_iff.1 hu).1
  have hug := (h.inner x r u hr hu).lt
  have hgs : g < w.heap.size := (h.outer.lt g rfl).2
  have h1 : w3.ownsRow B 60 1 (.slice (some ⟨g, 0, none⟩) N N) N vs := own_grown h.outer hg (fun k hk e => by cases hk; have := (hug g e).1; omega)
  refine ⟨(h1.stored x v').1, by rw [List.length_set]; exact h.len, ?_, ?_⟩
  · intro v q z hq hz
    rw [List.getElem?_set] at hq hz
    by_cases hv : x = v
    · subst hv
      rw [if_pos rfl, if_pos hx] at hq
      rw [if_pos rfl, if_pos hxv] at hz
      cases hq; cases hz
      exact own_setCell hown (by simp) _
    · rw [if_neg hv] at hq hz
      exact own_setCell (own_grown (h.inner v q z hq hz) hg (fun k hk e => h.apart x v u z k hv hu hz e hk)) (by simp) _
  · intro i j ui uj k hij hi hj hk
    rw [List.getElem?_set] at hi hj
    have hnew : ∀ m z, m ≠ x → vs[m]? = some z → z.ownBlock ≠ v'.ownBlock ∨ z.ownBlock = none := fun m z hm hz => by
      cases hzb : z.ownBlock with
      | none => exact .inr rfl
      | some k =>
        left
        intro e
        rcases hb with hb | hb
        · exact h.apart m x z u k hm hz hu hzb (hb.symm.trans e.symm)
        · rw [hb] at e
          cases e
          have hm2 : m < R.length := by have := (List.getElem?_eq_some_iff.1 hz).1; rw [h.vlen] at this; rw [h.len]; exact this
          have := ((h.inner m _ z (List.getElem?_eq_getElem hm2) hz).lt _ hzb).2
          omega
    by_cases hix : x = i
    · subst hix
      rw [if_pos rfl, if_pos hxv] at hi
      cases hi
      rw [if_neg hij] at hj
      intro e
      rcases hnew j uj (fun e => hij e.symm) hj with h2 | h2
      · exact h2 (e.trans hk.symm)
      · rw [h2] at e; cases e
    · rw [if_neg hix] at hi
      by_cases hjx : x = j
      · subst hjx
        rw [if_pos rfl, if_pos hxv] at hj
        cases hj
        intro e
        rcases hnew i ui (fun e => hix e.symm) hi with h2 | h2
        · exact h2 (hk.trans e.symm)
        · rw [h2] at hk; cases hk
      · rw [if_neg hjx] at hj
        exact h.apart i j ui uj k hij hi hj hk
theorem own_agree {w W : World} {B lo hi : Nat} {e : TypeId} {size : Nat} {v : Value} {n : Nat} {xs : List Value} (h : w.ownsRow B e size v n xs) (ha : Agree w W lo hi) (hB : lo ≤ B) (hh : w.heap.size ≤ hi) : W.ownsRow B e size v n xs := by
  refine ⟨h.1, ?_⟩
  rcases h.2 with hn | ⟨g, cap, cur, rfl, h1, h2, h3⟩
  · exact .inl hn
  · exact .inr ⟨g, cap, cur, rfl, h1, by rw [ha g (by omega) (by have := (Array.getElem?_eq_some_iff.1 h2).1; omega)]; exact h2, h3⟩
theorem OwnM.memM {w : World} {B lo g N : Nat} {R : List (List (Nat × Nat))} {vs : List Value} (h : OwnM w B g N R vs) (hB : lo ≤ B) : MemM w lo g N R := by
  refine ⟨h.len, fun v r hr => ?_⟩
  have hv : v < vs.length := by rw [h.vlen, ← h.len]; exact (List.getElem?_eq_some_iff.1 hr).1
  have hu := List.getElem?_eq_getElem hv
  have ho := h.inner v r _ hr hu
  have hBg := (h.outer.lt g rfl).1
  have hout := h.outer
  have hvl := h.vlen
  generalize vs[v] = u at hu ho
  obtain ⟨p, c, rfl⟩ := own_slice ho
  refine ⟨p, c, fun W hW => ⟨?_, Sl.of_own (own_agree ho hW (by omega) (Nat.le_refl _))⟩⟩
  have hc := (own_agree hout hW hB (Nat.le_refl _)).cellAt v (by omega)
  rw [hu] at hc
  exact hc
def rowsL (N : Nat) (E : List Eg) : List (List (Nat × Nat)) := (List.range N).map (hopsL E)
theorem rowsL_len (N : Nat) (E : List Eg) : (rowsL N E).length = N := by simp [rowsL]
theorem rowsL_at {N v : Nat} (E : List Eg) (h : v < N) : (rowsL N E)[v]? = some (hopsL E v) := by simp [rowsL, h]
theorem rowsL_take {N : Nat} {E : List Eg} {k : Nat} (h : k < E.length) : rowsL N (E.take (k + 1)) = (rowsL N (E.take k)).set E[k].1 (hopsL (E.take k) E[k].1 ++ [E[k].2]) := by
  apply List.ext_getElem?
  intro v
  by_cases hv : v < N
  · rw [rowsL_at _ hv, List.getElem?_set, rowsL_len, rowsL_at _ hv]
    by_cases he : E[k].1 = v
    · rw [hopsL_take_yes h he, if_pos he, if_pos (by omega), he]
    · rw [hopsL_take_no h he, if_neg he]
  · rw [List.getElem?_eq_none (by rw [rowsL_len]; omega), List.getElem?_eq_none (by rw [List.length_set, rowsL_len]; omega)]
theorem rowsL_nil (N : Nat) : rowsL N [] = List.replicate N [] := by
  apply List.ext_getElem?
  intro v
  by_cases hv : v < N
  · rw [rowsL_at _ hv, List.getElem?_replicate, if_pos hv]; rfl
  · rw [List.getElem?_eq_none (by rw [rowsL_len]; omega), List.getElem?_eq_none (by rw [List.length_replicate]; omega)]
theorem OwnM.made {w : World} {B g N : Nat} (h : w.ownsRow B 60 1 (.slice (some ⟨g, 0, none⟩) N N) N (List.replicate N (.slice none 0 0))) : OwnM w B g N (rowsL N []) (List.replicate N (.slice none 0 0)) := by
  refine ⟨h, by rw [rowsL_len], fun v r u hr hu => ?_, fun i j ui uj k _ hi _ hk => ?_⟩
  · rw [rowsL_nil, List.getElem?_replicate] at hr
    rw [List.getElem?_replicate] at hu
    split at hr
    · rename_i hv
      rw [if_pos hv] at hu
      cases hr; cases hu
      exact World.ownsRow_nil _ _ _ _
    · cases hr
  · rw [List.getElem?_replicate] at hi
    split at hi
    · cases hi; cases hk
    · cases hi
end Go.Proofs.Ytnkkhfggfhbibaa
