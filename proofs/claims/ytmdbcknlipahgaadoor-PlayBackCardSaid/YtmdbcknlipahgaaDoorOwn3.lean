/- Laws of memory for regions that draw their order: an append to a slice of the call's own. -/
import Derived.Test.YtmdbcknlipahgaaDoorOwn2
import Derived.RegionTactic
import Derived.Deep.RegionHeld3
namespace Go.Proofs.YtmdbcknlipahgaaDoor
open Go.RowKit
theorem wp_app_op {P : Program} {W w0 : World} {o : Oper} {a : Act} {K : Act → World → Prop} {Q : Exit → Act → World → Prop} (s x : Operand) (t : TypeId)
    (ho : o.op = .call { callee := .builtin .append, args := #[s, x], argTypes := #[t, t] })
    (base : Nat) (e : TypeId) {z : Value} {size bytes : Nat} (ht : P.underlying t = some (.slice e)) (hinf : (P.info? e).map (fun i => (i.zero, i.size, i.bytes)) = some (some z, size, bytes)) (hz : z.cells.size = size) (hsz : 0 < size)
    {v : Value} {n : Nat} {xs : List Value} (hs : a.eval s = v) (hown : W.ownsRow base e size v n xs)
    {p : Option Addr} {m c : Nat} {news : List Value} (hx : a.eval x = .slice p m c) (hr : Sl W size (.slice p m c) m news) (h1 : ∀ u ∈ news, u.oneCell' = true)
    (h63 : n + m ≤ maxLen) (hbytes : (n + m) * bytes ≤ 140737488355328) (hbel : Below base w0 W) (hbase : base ≤ W.heap.size)
    (h : ∀ p' c' w', w'.ownsRow base e size (.slice p' (n + m) c') (n + m) (xs ++ news) → Below base w0 w' → base ≤ w'.heap.size → W.grownBy w' v.ownBlock →
      ((Value.slice p' (n + m) c').ownBlock = v.ownBlock ∨ (Value.slice p' (n + m) c').ownBlock = some W.heap.size) → K (a.put o.dst (.slice p' (n + m) c')) w') : o.wp P a W K Q := by
  obtain ⟨v', w', hrun, h2, h3, h4⟩ := run_app (P := P) base t o.type e ht hinf hz hsz hown hr h1 h63 hbytes hbase
  unfold Oper.wp execOp
  simp only [ho, resolve, invoke, builtin, Sem.run_bind, Sem.run_pure, Result.andThen_ok, List.map_toArray, List.map_cons, List.map_nil, hs, hx, hrun]
  obtain ⟨p', c', rfl⟩ := own_slice h2
  exact h p' c' w' h2 (hbel.grown h3 hbase (fun k hk => (hown.lt k hk).1)) (Nat.le_trans hbase h3.size) h3 h4
theorem step_app {P : Program} {W w0 : World} {ops : Array Oper} {o : Oper} {a : Act} {K : Act → World → Prop} {Q : Exit → Act → World → Prop} {E : Prop} (hgd : o.guard = none) (s x : Operand) (t : TypeId)
    (ho : o.op = .call { callee := .builtin .append, args := #[s, x], argTypes := #[t, t] })
    (base : Nat) (e : TypeId) {z : Value} {size bytes : Nat} (ht : P.underlying t = some (.slice e)) (hinf : (P.info? e).map (fun i => (i.zero, i.size, i.bytes)) = some (some z, size, bytes)) (hz : z.cells.size = size) (hsz : 0 < size)
    {v : Value} {n : Nat} {xs : List Value} (hs : a.eval s = v) (hown : W.ownsRow base e size v n xs)
    {p : Option Addr} {m c : Nat} {news : List Value} (hx : a.eval x = .slice p m c) (hr : Sl W size (.slice p m c) m news) (h1 : ∀ u ∈ news, u.oneCell' = true)
    (h63 : n + m ≤ maxLen) (hbytes : (n + m) * bytes ≤ 140737488355328) (hbel : Below base w0 W) (hbase : base ≤ W.heap.size)
    (h : ∀ p' c' w', w'.ownsRow base e size (.slice p' (n + m) c') (n + m) (xs ++ news) → Below base w0 w' → base ≤ w'.heap.size → W.grownBy w' v.ownBlock →
      ((Value.slice p' (n + m) c').ownBlock = v.ownBlock ∨ (Value.slice p' (n + m) c').ownBlock = some W.heap.size) → K (a.put o.dst (.slice p' (n + m) c')) w') :
    if Region.wanted o (yielded ops a.tmps) = true then Oper.wp P o a W K Q else E := by
  have hw : Region.wanted o (yielded ops a.tmps) = true := by simp [Region.wanted, hgd]
  rw [if_pos hw]
  exact wp_app_op s x t ho base e ht hinf hz hsz hs hown hx hr h1 h63 hbytes hbel hbase h
theorem sl_new (w : World) (us : List Value) (e : TypeId) : Sl (w.alloc (.cells us.toArray e)) us.length (.slice (some ⟨w.heap.size, 0, none⟩) 1 1) 1 us := by
  refine ⟨_, 1, rfl, Nat.le_refl _, by decide, by omega, (fun h => by cases h), .inr ⟨_, 0, rfl, fun j u hj => ?_⟩⟩
  rw [cell_of_row _ _ (0 + j) us.toArray e (0, 0) (heap_alloc_new w _), Nat.zero_add]
  simpa using hj
/-- a block of its own, of two, three or four cells: what may be read and written there -/
theorem box2 {w : World} {g : Nat} {a b : Value} {t : TypeId} (h : w.heap[g]? = some (.cells #[a, b] t (0, 0))) :
    w.cell? ⟨g, 0, none⟩ = some a ∧ w.cell? ⟨g, 1, none⟩ = some b ∧ w.frozen? ⟨g, 0, none⟩ = false ∧ w.frozen? ⟨g, 1, none⟩ = false := by
  simp [World.cell?, World.frozen?, h]
theorem box3 {w : World} {g : Nat} {a b c : Value} {t : TypeId} (h : w.heap[g]? = some (.cells #[a, b, c] t (0, 0))) :
    w.cell? ⟨g, 0, none⟩ = some a ∧ w.cell? ⟨g, 1, none⟩ = some b ∧ w.cell? ⟨g, 2, none⟩ = some c ∧ w.frozen? ⟨g, 0, none⟩ = false ∧ w.frozen? ⟨g, 1, none⟩ = false ∧ w.frozen? ⟨g, 2, none⟩ = false := by
  simp [World.cell?, World.frozen?, h]
theorem box4 {w : World} {g : Nat} {a b c d : Value} {t : TypeId} (h : w.heap[g]? = some (.cells #[a, b, c, d] t (0, 0))) :
    w.cell? ⟨g, 0, none⟩ = some a ∧ w.cell? ⟨g, 1, none⟩ = some b ∧ w.cell? ⟨g, 2, none⟩ = some c ∧ w.cell? ⟨g, 3, none⟩ = some d ∧ w.frozen? ⟨g, 0, none⟩ = false ∧ w.frozen? ⟨g, 1, none⟩ = false ∧ w.frozen? ⟨g, 2, none⟩ = false ∧ w.frozen? ⟨g, 3, none⟩ = false := by
  simp [World.cell?, World.frozen?, h]
/-- a block of its own that holds just so -/
def Bx (w : World) (g : Nat) (cs : List Value) : Prop := ∃ t, w.heap[g]? = some (.cells cs.toArray t (0, 0))
theorem Bx.later {B : Nat} {w w' : World} {g : Nat} {cs : List Value} (h : Bx w g cs) (hb : Below B w w') (hg : g < B) : Bx w' g cs := by
  obtain ⟨t, h⟩ := h
  exact ⟨t, (hb.block g hg).trans h⟩
theorem Bx.grown {w w' : World} {g : Nat} {o : Option Nat} {cs : List Value} (h : Bx w g cs) (hg : w.grownBy w' o) (ho : o ≠ some g) : Bx w' g cs := by
  obtain ⟨t, h⟩ := h
  exact ⟨t, (hg.block g (Array.getElem?_eq_some_iff.1 h).1 (fun e => ho e.symm)).trans h⟩
theorem Bx.lt {w : World} {g : Nat} {cs : List Value} (h : Bx w g cs) : g < w.heap.size := by
  obtain ⟨t, h⟩ := h
  exact (Array.getElem?_eq_some_iff.1 h).1
theorem Bx.two {w : World} {g : Nat} {a b : Value} (h : Bx w g [a, b]) :
    w.cell? ⟨g, 0, none⟩ = some a ∧ w.cell? ⟨g, 1, none⟩ = some b ∧ w.frozen? ⟨g, 0, none⟩ = false ∧ w.frozen? ⟨g, 1, none⟩ = false := by
  obtain ⟨t, h⟩ := h
  exact box2 h
theorem Bx.three {w : World} {g : Nat} {a b c : Value} (h : Bx w g [a, b, c]) :
    w.cell? ⟨g, 0, none⟩ = some a ∧ w.cell? ⟨g, 1, none⟩ = some b ∧ w.cell? ⟨g, 2, none⟩ = some c ∧ w.frozen? ⟨g, 0, none⟩ = false ∧ w.frozen? ⟨g, 1, none⟩ = false ∧ w.frozen? ⟨g, 2, none⟩ = false := by
  obtain ⟨t, h⟩ := h
  exact box3 h
theorem Bx.four {w : World} {g : Nat} {a b c d : Value} (h : Bx w g [a, b, c, d]) :
    w.cell? ⟨g, 0, none⟩ = some a ∧ w.cell? ⟨g, 1, none⟩ = some b ∧ w.cell? ⟨g, 2, none⟩ = some c ∧ w.cell? ⟨g, 3, none⟩ = some d ∧ w.frozen? ⟨g, 0, none⟩ = false ∧ w.frozen? ⟨g, 1, none⟩ = false ∧ w.frozen? ⟨g, 2, none⟩ = false ∧ w.frozen? ⟨g, 3, none⟩ = false := by
  obtain ⟨t, h⟩ := h
  exact box4 h
theorem bx_new (w : World) (cs : List Value) (t : TypeId) : Bx (w.alloc (.cells cs.toArray t)) w.heap.size cs := ⟨t, heap_alloc_new w _⟩
theorem Bx.alloc {w : World} {g : Nat} {cs : List Value} (h : Bx w g cs) (o : Obj) : Bx (w.alloc o) g cs := by
  have hl := h.lt
  obtain ⟨t, h⟩ := h
  exact ⟨t, (Below.heap_alloc _ _ _ hl).trans h⟩
/-- three boxes of one call -/
theorem bx_three (w : World) (a b c : List Value) (t u v : TypeId) : let W := ((w.alloc (.cells a.toArray t)).alloc (.cells b.toArray u)).alloc (.cells c.toArray v)
    Bx W w.heap.size a ∧ Bx W (w.heap.size + 1) b ∧ Bx W (w.heap.size + 1 + 1) c ∧ Below w.heap.size w W ∧ W.heap.size = w.heap.size + 1 + 1 + 1 := by
  have e1 : (w.alloc (.cells a.toArray t)).heap.size = w.heap.size + 1 := by simp
  have e2 : ((w.alloc (.cells a.toArray t)).alloc (.cells b.toArray u)).heap.size = w.heap.size + 1 + 1 := by simp
  refine ⟨((bx_new w a t).alloc _).alloc _, ?_, ?_, (((Below.refl _ w).alloc (Nat.le_refl _) _).alloc (by simp) _).alloc (by simp <;> omega) _, by simp⟩
  · rw [← e1]; exact (bx_new _ b u).alloc _
  · rw [← e2]; exact bx_new _ c v
theorem own_far {w : World} {B : Nat} {e : TypeId} {size : Nat} {v : Value} {n : Nat} {xs : List Value} (h : w.ownsRow B e size v n xs) {g : Nat} (hg : g < B) : v.ownBlock ≠ some g := by
  intro e
  have := h.lt g e
  omega
theorem Sl.some2 {w : World} {size : Nat} {p : Option Addr} {c n : Nat} {xs : List Value} (h : Sl w (size + 1) (.slice p n c) n xs) (hn : 0 < n) : ∃ b off, p = some ⟨b, off, none⟩ := by
  obtain ⟨p', c', hp, h1, h2, h3, h4, h5⟩ := h
  cases hp
  rcases h5 with rfl | ⟨b, off, hp, _⟩
  · exact absurd (show 0 < n * (size + 1) from Nat.mul_pos hn (Nat.succ_pos size)) (by rw [← h3]; simp)
  · exact ⟨b, off, hp⟩
theorem Sl.dropk {w : World} {size : Nat} {b off c n : Nat} {xs : List Value} (h : Sl w size (.slice (some ⟨b, off, none⟩) n c) n xs) {k : Nat} (hk : k ≤ n) : Sl w size (.slice (some ⟨b, off + k * size, none⟩) (n - k) (c - k)) (n - k) (xs.drop (k * size)) := by
  obtain ⟨p', c', hp, h1, h2, h3, h4, h5⟩ := h
  cases hp
  refine ⟨_, _, rfl, by omega, by omega, by rw [List.length_drop, h3, Nat.sub_mul], (fun h => by cases h), ?_⟩
  rcases h5 with rfl | ⟨b', off', hb, h5⟩
  · exact .inl (by simp)
  · cases hb
    refine .inr ⟨b, off + k * size, rfl, fun j u hj => ?_⟩
    rw [List.getElem?_drop] at hj
    have := h5 _ u hj
    rw [Nat.add_assoc]
    exact this
theorem below_four (w : World) (o1 o2 o3 o4 : Obj) : Below w.heap.size w ((((w.alloc o1).alloc o2).alloc o3).alloc o4) :=
  ((((Below.refl _ w).alloc (Nat.le_refl _) _).alloc (by simp) _).alloc (by simp <;> omega) _).alloc (by simp <;> omega) _
theorem below_three (w : World) (o1 o2 o3 : Obj) : Below w.heap.size w (((w.alloc o1).alloc o2).alloc o3) :=
  (((Below.refl _ w).alloc (Nat.le_refl _) _).alloc (by simp) _).alloc (by simp <;> omega) _
theorem grown_four {w W' : World} {o1 o2 o3 o4 : Obj} (hg : ((((w.alloc o1).alloc o2).alloc o3).alloc o4).grownBy W' none) :
    W'.heap[w.heap.size]? = some o1 ∧ W'.heap[w.heap.size + 1]? = some o2 ∧ W'.heap[w.heap.size + 1 + 1]? = some o3 ∧ W'.heap[w.heap.size + 1 + 1 + 1]? = some o4 := by
  have e1 : (w.alloc o1).heap.size = w.heap.size + 1 := by simp
  have e2 : ((w.alloc o1).alloc o2).heap.size = w.heap.size + 1 + 1 := by simp
  have e3 : (((w.alloc o1).alloc o2).alloc o3).heap.size = w.heap.size + 1 + 1 + 1 := by simp
  have e4 : ((((w.alloc o1).alloc o2).alloc o3).alloc o4).heap.size = w.heap.size + 1 + 1 + 1 + 1 := by simp
  refine ⟨?_, ?_, ?_, ?_⟩
  · rw [hg.block _ (by omega) (by simp), Below.heap_alloc _ _ _ (by omega), Below.heap_alloc _ _ _ (by omega), Below.heap_alloc _ _ _ (by omega), heap_alloc_new]
  · rw [hg.block _ (by omega) (by simp), Below.heap_alloc _ _ _ (by omega), Below.heap_alloc _ _ _ (by omega), ← e1, heap_alloc_new]
  · rw [hg.block _ (by omega) (by simp), Below.heap_alloc _ _ _ (by omega), ← e2, heap_alloc_new]
  · rw [hg.block _ (by omega) (by simp), ← e3, heap_alloc_new]
/-- a row of the call's own lies from B on -/
theorem own_up {w : World} {base B : Nat} {e : TypeId} {size : Nat} {v : Value} {n : Nat} {xs : List Value} (h : w.ownsRow base e size v n xs) (hB : ∀ k, v.ownBlock = some k → B ≤ k) : w.ownsRow B e size v n xs := by
  refine ⟨h.1, ?_⟩
  rcases h.2 with hn | ⟨g, cap, cur, rfl, h1, h2, h3⟩
  · exact .inl hn
  · exact .inr ⟨g, cap, cur, rfl, hB g rfl, h2, h3⟩
theorem own_up' {w : World} {base B K : Nat} {e : TypeId} {size : Nat} {v : Value} {n : Nat} {xs : List Value} {o : Option Nat} (h : w.ownsRow base e size v n xs) (ho : v.ownBlock = o ∨ ∃ k, K ≤ k ∧ v.ownBlock = some k) (hn : o = none) (hB : B ≤ K) : w.ownsRow B e size v n xs := by
  refine own_up h fun k hk => ?_
  rcases ho with ho | ⟨k', h1, h2⟩
  · rw [ho, hn] at hk; cases hk
  · rw [h2] at hk; cases hk; omega
theorem own_drew {w : World} {B : Nat} {e : TypeId} {size : Nat} {v : Value} {n : Nat} {xs : List Value} (h : w.ownsRow B e size v n xs) : w.drew.ownsRow B e size v n xs := h
theorem own_setCell {w : World} {B : Nat} {e : TypeId} {size : Nat} {v : Value} {n : Nat} {xs : List Value} (h : w.ownsRow B e size v n xs) {a : Addr} (ha : a.block < B) (u : Value) : (w.setCell a u).ownsRow B e size v n xs := by
  refine ⟨h.1, ?_⟩
  rcases h.2 with hn | ⟨g, cap, cur, rfl, h1, h2, h3⟩
  · exact .inl hn
  · exact .inr ⟨g, cap, cur, rfl, h1, by rw [Below.heap_setCell _ _ _ _ (by omega)]; exact h2, h3⟩
theorem below_drew {B : Nat} {w w' : World} (h : Below B w w') : Below B w w'.drew := ⟨h.os, h.tape, h.output, h.size, h.block⟩
theorem Sl.drew {w : World} {size : Nat} {v : Value} {n : Nat} {xs : List Value} (h : Sl w size v n xs) : Sl w.drew size v n xs := h
end Go.Proofs.YtmdbcknlipahgaaDoor
