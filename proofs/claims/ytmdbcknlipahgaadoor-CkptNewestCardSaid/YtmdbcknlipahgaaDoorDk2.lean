/- A disk whose outer row is the call's own: storing into a file. -/
import Derived.Test.YtmdbcknlipahgaaDoorDk
namespace Go.Proofs.YtmdbcknlipahgaaDoor
open Go.RowKit
theorem dkC_set {l : List (Fl × Value)} {i j : Nat} (hi : i < l.length) (hj : j < 3) {u : Value} {f' : Fl} {v' : Value} (h : flC f' v' = (flC l[i].1 l[i].2).set j u) : dkC (l.set i (f', v')) = (dkC l).set (i * 3 + j) u := by
  induction l generalizing i with
  | nil => simp at hi
  | cons a l ih =>
    cases i with
    | zero =>
      show flC f' v' ++ dkC l = (flC a.1 a.2 ++ dkC l).set (0 * 3 + j) u
      rw [Nat.zero_mul, Nat.zero_add, List.set_append_left _ _ (by simp [flC]; omega)]
      congr 1
    | succ i =>
      show flC a.1 a.2 ++ dkC (l.set i (f', v')) = (flC a.1 a.2 ++ dkC l).set ((i + 1) * 3 + j) u
      have h3 : (flC a.1 a.2).length = 3 := rfl
      rw [List.set_append_right _ _ (by rw [h3]; omega), h3, show (i + 1) * 3 + j - 3 = i * 3 + j by omega]
      congr 1
      exact ih (by simpa using hi) h
theorem RdB.setNe {w : World} {B size n : Nat} {v : Value} {xs : List Value} (h : RdB w B size v n xs) {a : Addr} (ha : v.ownBlock ≠ some a.block) (u : Value) : RdB (w.setCell a u) B size v n xs := by
  obtain ⟨⟨p, c, rfl, h1, h2, h3, h4, h5⟩, h6⟩ := h
  refine ⟨⟨p, c, rfl, h1, h2, h3, h4, ?_⟩, h6⟩
  rcases h5 with h5 | ⟨b, off, rfl, h5⟩
  · exact .inl h5
  · refine .inr ⟨b, off, rfl, fun j u' hj => ?_⟩
    rw [← h5 j u' hj]
    exact World.cell?_setCell_other w a _ u (fun e => ha (by rw [e]; rfl))
theorem RdB.grown {w w' : World} {B size n : Nat} {v : Value} {xs : List Value} {o : Option Nat} (h : RdB w B size v n xs) (hg : w.grownBy w' o) (ho : ∀ k, v.ownBlock = some k → o ≠ some k) : RdB w' B size v n xs := by
  obtain ⟨⟨p, c, rfl, h1, h2, h3, h4, h5⟩, h6⟩ := h
  refine ⟨⟨p, c, rfl, h1, h2, h3, h4, ?_⟩, h6⟩
  rcases h5 with h5 | ⟨b, off, rfl, h5⟩
  · exact .inl h5
  · refine .inr ⟨b, off, rfl, fun j u' hj => ?_⟩
    have hc := h5 j u' hj
    have hlt := World.block_lt_of_cell? w _ hc
    have he := hg.block b hlt (fun e => ho b rfl e.symm)
    rw [← hc]
    unfold World.cell?
    rw [he]
structure MixDk (w : World) (B : Nat) (v : Value) (l : List (Fl × Value)) : Prop where
  outer : w.ownsRow B 121 3 v l.length (dkC l)
  inn : ∀ x ∈ l, RdB w B 1 x.2 x.1.dt.length (bys x.1.dt)
  ap : ∀ x ∈ l, ∀ k, x.2.ownBlock = some k → v.ownBlock ≠ some k
theorem OwnDk.mix {w : World} {B : Nat} {v : Value} {l : List (Fl × Value)} (h : OwnDk w B v l) : MixDk w B v l := ⟨h.outer, fun x hx => .of_own (h.inn x hx), h.ap⟩
theorem MixDk.rd {w : World} {B : Nat} {v : Value} {l : List (Fl × Value)} (h : MixDk w B v l) : RDk w B v l := ⟨.of_own h.outer, h.inn⟩
theorem MixDk.later {w w' : World} {B : Nat} {v : Value} {l : List (Fl × Value)} (h : MixDk w B v l) (hb : Below w.heap.size w w') : MixDk w' B v l := ⟨own_later h.outer hb, fun x hx => (h.inn x hx).later hb, h.ap⟩
theorem MixDk.setCell {w : World} {B : Nat} {v : Value} {l : List (Fl × Value)} (h : MixDk w B v l) {a : Addr} (ha : a.block < B) (u : Value) : MixDk (w.setCell a u) B v l := ⟨own_setCell h.outer ha u, fun x hx => (h.inn x hx).setCell ha u, h.ap⟩
/-- a field of a file is stored -/
theorem MixDk.put {w : World} {B g c i j : Nat} {l : List (Fl × Value)} {u v' : Value} {f' : Fl} (h : MixDk w B (.slice (some ⟨g, 0, none⟩) l.length c) l) (hi : i < l.length) (hj : j < 3)
    (hs : flC f' v' = (flC l[i].1 l[i].2).set j u) (hv : RdB w B 1 v' f'.dt.length (bys f'.dt)) (hg : v'.ownBlock ≠ some g) :
    MixDk (w.setCell ⟨g, i * 3 + j, none⟩ u) B (.slice (some ⟨g, 0, none⟩) l.length c) (l.set i (f', v')) := by
  have hst := (h.outer.stored (i * 3 + j) u).1
  rw [← dkC_set hi hj hs] at hst
  refine ⟨by rw [List.length_set]; exact hst, fun x hx => ?_, fun x hx k hk => ?_⟩
  · rcases List.mem_or_eq_of_mem_set hx with hx | rfl
    · exact (h.inn x hx).setNe (fun e => h.ap x hx g e rfl) u
    · exact hv.setNe hg u
  · rcases List.mem_or_eq_of_mem_set hx with hx | rfl
    · exact h.ap x hx k hk
    · intro e; cases e; exact hg hk
/-- data appended -/
theorem OwnDk.grow {w w7 : World} {B i : Nat} {v v7 : Value} {l : List (Fl × Value)} {d' : List Nat} (h : OwnDk w B v l) (hi : i < l.length) (hg : w.grownBy w7 l[i].2.ownBlock) (hown : w7.ownsRow B 5 1 v7 d'.length (bys d'))
    (hnb : v7.ownBlock = l[i].2.ownBlock ∨ ∃ k, w.heap.size ≤ k ∧ v7.ownBlock = some k) :
    w7.ownsRow B 121 3 v l.length (dkC l) ∧ (∀ k x, k ≠ i → l[k]? = some x → RdB w7 B 1 x.2 x.1.dt.length (bys x.1.dt)) ∧ RdB w7 B 1 v7 d'.length (bys d') ∧ (∀ k, v.ownBlock = some k → v7.ownBlock ≠ some k) := by
  have hmem := List.getElem_mem hi
  refine ⟨own_grown h.outer hg (fun k hk e => h.ap _ hmem k e hk), fun k x hki hk => ?_, .of_own hown, fun k hk e => ?_⟩
  · obtain ⟨hkl, rfl⟩ := List.getElem?_eq_some_iff.1 hk
    refine (RdB.of_own (h.inn _ (List.getElem_mem hkl))).grown hg (fun b hb e => ?_)
    rcases Nat.lt_or_gt_of_ne hki with hlt | hlt
    · exact List.pairwise_iff_getElem.1 h.pw k i hkl hi hlt b hb e
    · exact List.pairwise_iff_getElem.1 h.pw i k hi hkl hlt b e hb
  · rcases hnb with hn | ⟨k', h1, h2⟩
    · rw [hn] at e; exact h.ap _ hmem k e hk
    · rw [h2] at e; cases e
      have := (h.outer.lt _ hk).2
      omega
theorem OwnDk.appended {w w7 : World} {B g c i : Nat} {v7 : Value} {l : List (Fl × Value)} {d' : List Nat} (h : OwnDk w B (.slice (some ⟨g, 0, none⟩) l.length c) l) (hi : i < l.length) (hg : w.grownBy w7 l[i].2.ownBlock) (hown : w7.ownsRow B 5 1 v7 d'.length (bys d'))
    (hnb : v7.ownBlock = l[i].2.ownBlock ∨ ∃ k, w.heap.size ≤ k ∧ v7.ownBlock = some k) :
    MixDk (w7.setCell ⟨g, i * 3 + 1, none⟩ v7) B (.slice (some ⟨g, 0, none⟩) l.length c) (l.set i ({ l[i].1 with dt := d' }, v7)) := by
  obtain ⟨h1, h2, h3, h4⟩ := h.grow hi hg hown hnb
  have hst := (h1.stored (i * 3 + 1) v7).1
  rw [← dkC_set (f' := { l[i].1 with dt := d' }) (v' := v7) hi (by decide) rfl] at hst
  refine ⟨by rw [List.length_set]; exact hst, fun x hx => ?_, fun x hx k hk => ?_⟩
  · obtain ⟨k, hk, rfl⟩ := List.getElem_of_mem hx
    rw [List.length_set] at hk
    rw [List.getElem_set]
    by_cases hik : i = k
    · rw [if_pos hik]; exact h3.setNe (fun e => h4 g rfl e) v7
    · rw [if_neg hik]
      exact (h2 k _ (fun e => hik e.symm) (List.getElem?_eq_getElem hk)).setNe (fun e => h.ap _ (List.getElem_mem hk) g e rfl) v7
  · rcases List.mem_or_eq_of_mem_set hx with hx | rfl
    · exact h.ap x hx k hk
    · intro e; cases e; exact h4 g rfl hk
end Go.Proofs.YtmdbcknlipahgaaDoor
