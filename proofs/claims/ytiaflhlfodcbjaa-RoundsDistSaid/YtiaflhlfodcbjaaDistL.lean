/- Laws for the walk of paths.Dist. -/
import Derived.Test.YtiaflhlfodcbjaaSpots
import Derived.Test.YtiaflhlfodcbjaaPDist
import Derived.Test.YtiaflhlfodcbjaaRowsM
namespace Go.Proofs.Ytiaflhlfodcbjaa
open Go.RowKit Go.Sort Go.Proofs
/-- distances as cells -/
def fds (far : List Nat) : List Value := far.map fun (x : Nat) => Value.int .i64 ((x : Int) - 1)
theorem fds_len (far : List Nat) : (fds far).length = far.length := by simp [fds]
theorem fds_set (far : List Nat) (i x : Nat) : fds (far.set i (x + 1)) = (fds far).set i (.int .i64 (x : Int)) := by
  unfold fds
  rw [List.map_set]
  congr 2
  omega
theorem fds_none (far : List Nat) (i : Nat) : fds (far.set i 0) = (fds far).set i (.int .i64 (-1)) := by
  unfold fds
  rw [List.map_set]
  rfl
theorem fds_at {far : List Nat} {v : Nat} (h : v < far.length) : (fds far)[v]? = some (.int .i64 ((fv far v : Int) - 1)) := by
  unfold fds fv
  rw [List.getElem?_map, List.getElem?_eq_getElem h, List.getD_eq_getElem?_getD, List.getElem?_eq_getElem h]
  rfl
theorem fds_ones (N : Nat) : fds (List.replicate N 1) = List.replicate N (.int .i64 0) := by
  unfold fds
  rw [List.map_replicate]
  rfl
theorem fill_end {far : List Nat} {N : Nat} (hl : far.length = N) (h : ∀ j, j < N → far[j]? = some 0) : far = List.replicate N 0 := by
  refine List.eq_replicate_iff.2 ⟨hl, fun b hb => ?_⟩
  obtain ⟨i, hi, rfl⟩ := List.mem_iff_getElem.1 hb
  have := h i (by omega)
  rw [List.getElem?_eq_getElem hi] at this
  exact Option.some.inj this
theorem fill_step {far : List Nat} {i : Nat} (hi : i < far.length) (h : ∀ j, j < i → far[j]? = some 0) : ∀ j, j < i + 1 → (far.set i 0)[j]? = some 0 := by
  intro j hj
  rw [List.getElem?_set]
  by_cases e : i = j
  · subst e; simp [hi]
  · rw [if_neg e]; exact h j (by omega)
theorem own_bel {w W : World} {A B : Nat} {e : TypeId} {size : Nat} {v : Value} {n : Nat} {xs : List Value} (h : w.ownsRow A e size v n xs) (hb : Below B w W) (hs : ∀ k, v.ownBlock = some k → k < B) : W.ownsRow A e size v n xs := by
  refine ⟨h.1, ?_⟩
  rcases h.2 with hn | ⟨g, cap, cur, rfl, h1, h2, h3⟩
  · exact .inl hn
  · exact .inr ⟨g, cap, cur, rfl, h1, by rw [hb.block g (hs g rfl)]; exact h2, h3⟩
/-- what the heap leaves alone -/
structure FrD (w w2 : World) (A s lo B N x : Nat) (cs : List Value) (far : List Nat) (W : World) : Prop where
  own : W.ownsRow A 3 1 (.slice (some ⟨s, 0, none⟩) N N) N (fds far)
  agree : Agree w2 W lo B
  below : Below w.heap.size w W
  box : Bx W x cs
theorem FrD.next {w w2 : World} {A s lo B N x : Nat} {cs : List Value} {far : List Nat} {W W' : World} (h : FrD w w2 A s lo B N x cs far W) (hb : Below B W W') (hs : s < B) (hx : x < B) (hw : w.heap.size ≤ B) : FrD w w2 A s lo B N x cs far W' :=
  ⟨own_bel h.own hb (fun k hk => by cases hk; exact hs), h.agree.trans (agree_below hb (Nat.le_refl _)), h.below.trans (hb.mono hw), h.box.later hb hx⟩
theorem FrD.put {w w2 : World} {A s lo B N x i : Nat} {cs : List Value} {far : List Nat} {W : World} (h : FrD w w2 A s lo B N x cs far W) (hs : s < lo) (hB : B ≤ W.heap.size) (hx : x ≠ s) (hw : w.heap.size ≤ s) (y : Nat) : FrD w w2 A s lo B N x cs (far.set i (y + 1)) (W.setCell ⟨s, i, none⟩ (.int .i64 (y : Int))) :=
  ⟨by rw [fds_set]; exact (h.own.stored i (.int .i64 (y : Int))).1, h.agree.trans (agree_grown grown_set hB (.inl hs)), h.below.setCell hw _, bx_oth h.box (a := ⟨s, i, none⟩) hx _⟩
theorem SpSt.later {B g x : Nat} {cs : List Value} {W W' : World} {l : List (Nat × Nat)} (h : SpSt B g x cs W l) (hb : Below W.heap.size W W') : SpSt B g x cs W' l := by
  obtain ⟨p, c, hX, ho, hne, hBg, hXx, hnx, hxg⟩ := h
  exact ⟨p, c, hX.next hb, own_later ho hb, hne, hBg, hXx.next hb, hnx, hxg⟩
theorem SpSt.newBox {B g x : Nat} {cs : List Value} {W : World} {l : List (Nat × Nat)} (h : SpSt B g x cs W l) (ds : List Value) (t : TypeId) : SpSt B g W.heap.size ds (W.alloc (.cells ds.toArray t)) l := by
  obtain ⟨p, c, hX, ho, hne, hBg, hXx, hnx, hxg⟩ := h
  exact ⟨p, c, hX.alloc _, ho.alloc _, hne, hBg, bx_new _ _ _, fun e => by have := (ho.lt _ e).2; omega, by have := hX.lt; omega⟩
theorem SpSt.oldBox {B g x y : Nat} {cs ds : List Value} {W : World} {l : List (Nat × Nat)} (h : SpSt B g x cs W l) (hy : Bx W y ds) (hB : y < B) : SpSt B g y ds W l := by
  obtain ⟨p, c, hX, ho, hne, hBg, hXx, hnx, hxg⟩ := h
  exact ⟨p, c, hX, ho, hne, hBg, hy, fun e => by have := (ho.lt _ e).1; omega, by omega⟩
theorem SpSt.other {B g x s i : Nat} {cs : List Value} {W : World} {l : List (Nat × Nat)} (h : SpSt B g x cs W l) (hs : s < B) (hx : x ≠ s) (u : Value) : SpSt B g x cs (W.setCell ⟨s, i, none⟩ u) l := by
  obtain ⟨p, c, hX, ho, hne, hBg, hXx, hnx, hxg⟩ := h
  exact ⟨p, c, bx_oth hX (a := ⟨s, i, none⟩) (by show g ≠ s; omega) _, own_setCell ho hs u, hne, hBg, bx_oth hXx (a := ⟨s, i, none⟩) hx _, hnx, hxg⟩
theorem SpSt.lt {B g x : Nat} {cs : List Value} {W : World} {l : List (Nat × Nat)} (h : SpSt B g x cs W l) : g < W.heap.size ∧ B ≤ g ∧ x < W.heap.size := by
  obtain ⟨p, c, hX, ho, hne, hBg, hXx, hnx, hxg⟩ := h
  exact ⟨hX.lt, hBg, hXx.lt⟩
theorem SpSt.cell {B g x : Nat} {cs : List Value} {W : World} {l : List (Nat × Nat)} (h : SpSt B g x cs W l) : ∃ p c, W.cell? ⟨g, 0, none⟩ = some (.slice p l.length c) := by
  obtain ⟨p, c, hX, -⟩ := h
  exact ⟨p, c, hX.one⟩
theorem SpSt.box {B g x : Nat} {cs : List Value} {W : World} {l : List (Nat × Nat)} (h : SpSt B g x cs W l) : Bx W x cs := by
  obtain ⟨p, c, hX, ho, hne, hBg, hXx, hnx, hxg⟩ := h
  exact hXx
/-- the first spot -/
theorem spSt_begin (W : World) (v x : Nat) (cs : List Value) (t : TypeId) (hx : Bx W x cs) : SpSt W.heap.size (W.heap.size + 1) x cs ((W.alloc (.cells #[.int .i64 (v : Int), .int .i64 0] 87)).alloc (.cells #[.slice (some ⟨W.heap.size, 0, none⟩) 1 1] t)) [(v, 0)] := by
  have hsz : (W.alloc (.cells #[.int .i64 (v : Int), .int .i64 0] 87)).heap.size = W.heap.size + 1 := by simp
  have h2 := bx_new (W.alloc (.cells #[.int .i64 (v : Int), .int .i64 0] 87)) [.slice (some ⟨W.heap.size, 0, none⟩) 1 1] t
  rw [hsz] at h2
  have ho := World.ownsRow_lit (base := W.heap.size) (e := 87) (size := 2) W #[.int .i64 (v : Int), .int .i64 0] 1 (Nat.le_refl _) (by unfold maxLen; omega) rfl
  have := hx.lt
  exact ⟨some ⟨W.heap.size, 0, none⟩, 1, h2, ho.alloc _, fun e => by have h2 : W.heap.size = W.heap.size + 1 := Option.some.inj e; omega, by omega, (hx.alloc _).alloc _, fun e => by have h2 : W.heap.size = x := Option.some.inj e; omega, by omega⟩
theorem Dj.inN {E : List Eg} {s u N : Nat} {far : List Nat} {Q rest : List (Nat × Nat)} (h : Dj E s far Q u rest) (hG : InG N E) (hs : s < N) : ∀ q ∈ Q, q.1 < N := fun q hq => by
  rcases h.org q hq with rfl | ⟨x, w, he, -, -⟩
  · exact hs
  · exact (hG _ he).2.1
theorem hp_one (a : Nat × Nat) : Hp leS [a] := by
  intro i x y h0 hx hy
  have := (List.getElem?_eq_some_iff.1 hy).1
  simp at this
  omega
end Go.Proofs.Ytiaflhlfodcbjaa
