/- sheet.Read: what its loop keeps. No program walked. -/
import Derived.Test.YtmdbcknlipahgaaDoorShowG
import Derived.Test.YtmdbcknlipahgaaDoorLines
namespace Go.Proofs.YtmdbcknlipahgaaDoor
open Go Go.RowKit
/-- what is read out of these lines -/
def rdS : List (List UInt8) → Int × List Ge
  | [] => (0, [])
  | l :: ls => ((numsL l).headD 0, ls.flatMap edgeOf)
theorem readL_rdS (s : List UInt8) : readL s = rdS (linesL s) := by
  unfold readL rdS
  cases linesL s <;> rfl
theorem rdS_snoc {xs : List (List UInt8)} (h : xs ≠ []) (l : List UInt8) : rdS (xs ++ [l]) = ((rdS xs).1, (rdS xs).2 ++ edgeOf l) := by
  cases xs with
  | nil => exact absurd rfl h
  | cons x xs => simp [rdS]
theorem lines_sum : ∀ (s : List UInt8), (linesL s).flatten = s := by
  intro s
  have : ∀ (n : Nat) (s : List UInt8), s.length ≤ n → (linesL s).flatten = s := by
    intro n
    induction n with
    | zero => intro s hs; obtain rfl : s = [] := List.eq_nil_of_length_eq_zero (by omega); rfl
    | succ n ih =>
      intro s hs
      rcases idx_cases s with ⟨_, h⟩ | ⟨a, t, rfl, ha, _⟩
      · by_cases h0 : s = []
        · subst h0; rfl
        · rw [linesL_last s h0 h]; simp
      · rw [linesL_line a t ha]
        have := ih t (by simp at hs; omega)
        simp [this]
  exact this s.length s (Nat.le_refl _)
theorem lines_le {s x : List UInt8} (h : x ∈ linesL s) : x.length ≤ s.length := by
  rw [← lines_sum s]
  generalize linesL s = L at *
  induction L with
  | nil => cases h
  | cons y L ih =>
    rw [List.flatten_cons, List.length_append]
    rcases List.mem_cons.1 h with rfl | h
    · omega
    · have := ih h; omega
theorem lines_many (s : List UInt8) : (linesL s).length ≤ s.length := by
  have : ∀ (n : Nat) (s : List UInt8), s.length ≤ n → (linesL s).length ≤ s.length := by
    intro n
    induction n with
    | zero => intro s hs; obtain rfl : s = [] := List.eq_nil_of_length_eq_zero (by omega); exact Nat.le_refl _
    | succ n ih =>
      intro s hs
      rcases idx_cases s with ⟨_, h⟩ | ⟨a, t, rfl, ha, _⟩
      · by_cases h0 : s = []
        · subst h0; exact Nat.le_refl _
        · rw [linesL_last s h0 h]
          have : 0 < s.length := List.length_pos_iff.2 h0
          show 1 ≤ s.length
          omega
      · rw [linesL_line a t ha]
        have := ih t (by simp at hs; omega)
        simp; omega
  exact this s.length s (Nat.le_refl _)
theorem edgeOf_len (l : List UInt8) : (edgeOf l).length ≤ 1 := by
  unfold edgeOf
  split <;> simp
theorem rdS_len (xs : List (List UInt8)) : (rdS xs).2.length ≤ xs.length := by
  cases xs with
  | nil => simp [rdS]
  | cons x xs =>
    show (xs.flatMap edgeOf).length ≤ _
    have : (xs.flatMap edgeOf).length ≤ xs.length := by
      induction xs with
      | nil => simp
      | cons y xs ih => rw [List.flatMap_cons, List.length_append, List.length_cons]; have := edgeOf_len y; omega
    rw [List.length_cons]; omega
/-- the lines' bytes -/
abbrev lnB (pre : List ByteArray) : List (List UInt8) := pre.map (·.data.toList)
theorem lnB_snoc (pre : List ByteArray) (x : ByteArray) : lnB (pre ++ [x]) = lnB pre ++ [x.data.toList] := by simp [lnB]
/-- what the loop keeps: result r, graph g, flag f, rows beyond D -/
structure RdI (w : World) (r g f D : Nat) (pre : List ByteArray) (W : World) : Prop where
  hg : ∃ p n c, W.heap[g]? = some (.cells #[.int .i64 (rdS (lnB pre)).1, .slice p n c] 24 (0, 0)) ∧ n = (rdS (lnB pre)).2.length ∧ W.ownsRow D 84 3 (.slice p n c) n (ges (rdS (lnB pre)).2)
  hf : W.heap[f]? = some (.cells #[.bool pre.isEmpty] 4 (0, 0))
  hr : W.heap[r]? = some (.cells #[.int .i64 0, .slice none 0 0] 24 (0, 0))
  hb : Below w.heap.size w W
  hd : D ≤ W.heap.size
theorem RdI.kept {w : World} {r g f D : Nat} {pre : List ByteArray} {W W' : World} {row : Option Nat} (h : RdI w r g f D pre W) (hw : W.grownBy W' row)
    (hrow : ∀ k, row = some k → w.heap.size ≤ k ∧ ((k < D ∧ k ≠ r ∧ k ≠ g ∧ k ≠ f) ∨ ∃ o, W.heap[k]? = some o ∧ o.isCells = false)) : RdI w r g f D pre W' := by
  have same : ∀ k o, W.heap[k]? = some o → o.isCells = true → (k = r ∨ k = g ∨ k = f ∨ D ≤ k) → W'.heap[k]? = some o := fun k o hk hc hx => by
    refine (hw.block k (Array.getElem?_eq_some_iff.1 hk).1 (fun e => ?_)).trans hk
    obtain ⟨_, h2 | ⟨o', h3, h4⟩⟩ := hrow k e.symm
    · omega
    · rw [hk] at h3; cases h3; rw [hc] at h4; cases h4
  obtain ⟨p, n, c, h1, h2, h3⟩ := h.hg
  refine ⟨⟨p, n, c, same _ _ h1 rfl (.inr (.inl rfl)), h2, h3.1, ?_⟩, same _ _ h.hf rfl (.inr (.inr (.inl rfl))), same _ _ h.hr rfl (.inl rfl), ?_, Nat.le_trans h.hd hw.size⟩
  · rcases h3.2 with hn | ⟨b, cap, cur, hv, hb, hc, hrest⟩
    · exact .inl hn
    · exact .inr ⟨b, cap, cur, hv, hb, same _ _ hc rfl (.inr (.inr (.inr hb))), hrest⟩
  · exact h.hb.grown hw h.hb.size (fun k e => (hrow k e).1)
theorem RdI.own (w : World) (r g f D B : Nat) (hB : w.heap.size ≤ B) : OwnFrom B (RdI w r g f D) := fun pre W W' row h hw hr => h.kept hw (fun k e => ⟨by have := (hr k e).1; omega, .inr (hr k e).2⟩)
theorem RdI.ab {w : World} {r g f D b : Nat} (hb : w.heap.size ≤ b ∧ b < D ∧ b ≠ r ∧ b ≠ g ∧ b ≠ f) (pre : List ByteArray) (W W' : World) (h : RdI w r g f D pre W) (hw : W.grownBy W' (some b)) : RdI w r g f D pre W' := h.kept hw (fun k e => by cases e; exact ⟨hb.1, .inl ⟨hb.2.1, hb.2.2.1, hb.2.2.2.1, hb.2.2.2.2⟩⟩)
/-- a call that writes nothing old -/
theorem RdI.later {w : World} {r g f D : Nat} {pre : List ByteArray} {W W' : World} (h : RdI w r g f D pre W) (hb : Below W.heap.size W W') : RdI w r g f D pre W' :=
  h.kept (row := none) ⟨hb.os, hb.tape, hb.output, hb.size, fun k hk _ => hb.block k hk⟩ (fun k e => by cases e)
theorem keeps_below {B : Nat} {W W' : World} (h : Below W.heap.size W W') : KeepsFrom B W W' := ⟨h.size, fun k _ _ hk _ => (h.block k (Array.getElem?_eq_some_iff.1 hk).1).trans hk⟩
/-- the first line read -/
theorem RdI.first {w : World} {r g f D : Nat} {W : World} {x : ByteArray} (h : RdI w r g f D [] W) (hne : r ≠ g ∧ r ≠ f ∧ g ≠ f) (hg : w.heap.size ≤ g) (hf : w.heap.size ≤ f) (hgD : g < D) (hfD : f < D) :
    RdI w r g f D [x] ((W.setCell ⟨g, 0, none⟩ (.int .i64 ((numsL x.data.toList).headD 0))).setCell ⟨f, 0, none⟩ (.bool false)) := by
  obtain ⟨p, n, c, h1, h2, h3⟩ := h.hg
  obtain ⟨hrg, hrf, hgf⟩ := hne
  have e1 : (W.setCell ⟨g, 0, none⟩ (.int .i64 ((numsL x.data.toList).headD 0))).heap[g]? = some (.cells #[.int .i64 ((numsL x.data.toList).headD 0), .slice p n c] 24 (0, 0)) := heap_setCell_same W g 0 _ _ _ h1
  have e2 : (W.setCell ⟨g, 0, none⟩ (.int .i64 ((numsL x.data.toList).headD 0))).heap[f]? = some (.cells #[.bool true] 4 (0, 0)) := (Below.heap_setCell _ _ _ f (fun e => hgf e.symm)).trans h.hf
  have e3 : ((W.setCell ⟨g, 0, none⟩ (.int .i64 ((numsL x.data.toList).headD 0))).setCell ⟨f, 0, none⟩ (.bool false)).heap[f]? = some (.cells #[.bool false] 4 (0, 0)) := heap_setCell_same _ f 0 _ _ _ e2
  refine ⟨⟨p, n, c, (Below.heap_setCell _ _ _ g hgf).trans e1, h2, h3.1, ?_⟩, e3, (Below.heap_setCell _ _ _ r hrf).trans ((Below.heap_setCell _ _ _ r hrg).trans h.hr), (h.hb.setCell (p := ⟨g, 0, none⟩) hg _).setCell (p := ⟨f, 0, none⟩) hf _, ?_⟩
  · rcases h3.2 with hn | ⟨b, cap, cur, hv, hb, hc, hrest⟩
    · exact .inl hn
    · exact .inr ⟨b, cap, cur, hv, hb, (Below.heap_setCell _ _ _ b (fun e => by have e' : b = f := e; omega)).trans ((Below.heap_setCell _ _ _ b (fun e => by have e' : b = g := e; omega)).trans hc), hrest⟩
  · rw [World.size_setCell, World.size_setCell]; exact h.hd
end Go.Proofs.YtmdbcknlipahgaaDoor
