/- Boxes, rows of the call's own, worlds that agree: laws of memory that many walks share. -/
import Derived.Test.YtmdbcknlipahgaaDoorOwn3
import Derived.Laws.ResultCell
import Derived.Laws.OwnMore
namespace Go.Proofs.YtmdbcknlipahgaaDoor
open Go.RowKit
theorem own_ne_st {w : World} {B : Nat} {e : TypeId} {size n g : Nat} {v : Value} {xs : List Value} (h : w.ownsRow B e size v n xs) (hg : g < B) (i : Nat) (u : Value) : (w.setCell ⟨g, i, none⟩ u).ownsRow B e size v n xs := own_setCell h hg u
theorem Bx.one {w : World} {g : Nat} {a : Value} (h : Bx w g [a]) : w.cell? ⟨g, 0, none⟩ = some a := by
  obtain ⟨t, h⟩ := h
  simp [World.cell?, h]
theorem bx2_of {w : World} {g : Nat} {a b : Value} {t : TypeId} (h : w.heap[g]? = some (.cells #[a, b] t (0, 0))) : Bx w g [a, b] := ⟨t, h⟩
theorem bx_set1 {w : World} {g : Nat} {a b : Value} (h : Bx w g [a, b]) (u : Value) : Bx (w.setCell ⟨g, 1, none⟩ u) g [a, u] := by
  obtain ⟨t, h⟩ := h
  refine ⟨t, ?_⟩
  have hl := (Array.getElem?_eq_some_iff.1 h).1
  unfold World.setCell
  simp [Array.getElem?_modify, h]
theorem bx_oth {w : World} {g : Nat} {cs : List Value} (h : Bx w g cs) {a : Addr} (ha : g ≠ a.block) (u : Value) : Bx (w.setCell a u) g cs := by
  obtain ⟨t, h⟩ := h
  exact ⟨t, by rw [Below.heap_setCell _ _ _ _ ha]; exact h⟩
theorem Bx.setc {w : World} {g : Nat} {cs : List Value} (h : Bx w g cs) (i : Nat) (u : Value) : Bx (w.setCell ⟨g, i, none⟩ u) g (cs.set i u) := by
  obtain ⟨t, h⟩ := h
  refine ⟨t, ?_⟩
  have := heap_setCell_same w g i cs.toArray t u h
  rw [List.setIfInBounds_toArray] at this
  exact this
/-- one piece appended, the heap's size under a name -/
theorem wp_app1h {P : Program} {W w0 : World} {ops : Array Oper} {rest : List Oper} {o : Oper} {a : Act} {Q : Exit → Act → World → Prop} (hgd : o.guard = none) (s x : Operand) (t : TypeId)
    (ho : o.op = .call { callee := .builtin .append, args := #[s, x], argTypes := #[t, t] })
    (base : Nat) (e : TypeId) {z : Value} {size bytes : Nat} (ht : P.underlying t = some (.slice e)) (hinf : (P.info? e).map (fun i => (i.zero, i.size, i.bytes)) = some (some z, size, bytes)) (hz : z.cells.size = size) (hsz : 0 < size)
    {v : Value} {n : Nat} {xs : List Value} (hs : a.eval s = v) (hown : W.ownsRow base e size v n xs)
    {us : List Value} {H : Nat} (hx : a.eval x = .slice (some ⟨H, 0, none⟩) 1 1) (hH : W.heap.size = H) (hul : us.length = size) (hu : ∀ u ∈ us, u.oneCell' = true)
    (h63 : n + 1 ≤ maxLen) (hbytes : (n + 1) * bytes ≤ 140737488355328) (hbel : Below base w0 W) (hbase : base ≤ W.heap.size)
    (h : ∀ p' c' w', w'.ownsRow base e size (.slice p' (n + 1) c') (n + 1) (xs ++ us) → Below base w0 w' → base ≤ w'.heap.size → W.grownBy w' v.ownBlock →
      ((Value.slice p' (n + 1) c').ownBlock = v.ownBlock ∨ ∃ k, W.heap.size ≤ k ∧ (Value.slice p' (n + 1) c').ownBlock = some k) → wpList P ops Q rest (a.put o.dst (.slice p' (n + 1) c')) w') :
    wpList P ops Q (o :: rest) a (W.alloc (.cells us.toArray e)) := by
  subst hH
  exact wp_app1 hgd s x t ho base e ht hinf hz hsz hs hown hx hul hu h63 hbytes hbel hbase h
theorem results_cell1 {fn : Func} {p : Tmp} {ty : TypeId} (h : fn.results = #[.cell p ty]) (tmps : Array Value) (P : Program) (w : World) :
    (results fn tmps).run P w = ((asAddr (tmps.getD p undef)).run P w).andThen fun a w₁ => (loadVar ty a).run P w₁ := by
  simp only [results, h]
  simp [Sem.run_bind, Result.andThen]
theorem alloc_below (w : World) (o : Obj) : Below w.heap.size w (w.alloc o) := (Below.refl _ w).alloc (Nat.le_refl _) o
/-- a call behind a box: what was there is as it was, and so is the box -/
theorem boxed {w1 w2 : World} {cs : List Value} {t : TypeId} (h : Below (w1.alloc (.cells cs.toArray t)).heap.size (w1.alloc (.cells cs.toArray t)) w2) : Below w1.heap.size w1 w2 ∧ Bx w2 w1.heap.size cs ∧ w1.heap.size + 1 ≤ w2.heap.size := by
  have e : (w1.alloc (.cells cs.toArray t)).heap.size = w1.heap.size + 1 := by simp
  refine ⟨(alloc_below w1 _).trans (h.mono (by omega)), (bx_new w1 cs t).later h (by omega), ?_⟩
  have := h.size
  omega
theorem boxed0 (w1 : World) (cs : List Value) (t : TypeId) : Below w1.heap.size w1 (w1.alloc (.cells cs.toArray t)) ∧ Bx (w1.alloc (.cells cs.toArray t)) w1.heap.size cs ∧ w1.heap.size + 1 ≤ (w1.alloc (.cells cs.toArray t)).heap.size :=
  boxed (Below.refl _ _)
theorem own_grown {w w' : World} {B : Nat} {e : TypeId} {size : Nat} {v : Value} {n : Nat} {xs : List Value} {o : Option Nat} (h : w.ownsRow B e size v n xs) (hg : w.grownBy w' o) (ho : ∀ k, v.ownBlock = some k → o ≠ some k) : w'.ownsRow B e size v n xs := by
  refine ⟨h.1, ?_⟩
  rcases h.2 with hn | ⟨g, cap, cur, rfl, h1, h2, h3⟩
  · exact .inl hn
  · exact .inr ⟨g, cap, cur, rfl, h1, by rw [hg.block g (Array.getElem?_eq_some_iff.1 h2).1 (fun e => ho g rfl e.symm)]; exact h2, h3⟩
theorem Bx.next {w w' : World} {g : Nat} {cs : List Value} (h : Bx w g cs) (hb : Below w.heap.size w w') : Bx w' g cs := h.later hb h.lt
theorem below_next {B : Nat} {w w1 w2 : World} (h : Below B w w1) (hB : B ≤ w.heap.size) (h2 : Below w1.heap.size w1 w2) : Below B w w2 := h.trans (h2.mono (Nat.le_trans hB h.size))
def bls (l : List Bool) : List Value := l.map Value.bool
theorem bls_len (l : List Bool) : (bls l).length = l.length := by simp [bls]
theorem bls_set (l : List Bool) (i : Nat) (b : Bool) : bls (l.set i b) = (bls l).set i (.bool b) := by simp [bls, List.map_set]
theorem bls_at {l : List Bool} {i : Nat} {b : Bool} (h : l[i]? = some b) : (bls l)[i]? = some (.bool b) := by simp [bls, h]
theorem bls_rep (n : Nat) (b : Bool) : bls (List.replicate n b) = List.replicate n (.bool b) := by simp [bls]
theorem grown_trans {w w1 w2 : World} {r : Option Nat} (h : w.grownBy w1 r) (h2 : w1.grownBy w2 r) : w.grownBy w2 r :=
  ⟨h2.os.trans h.os, h2.tape.trans h.tape, h2.output.trans h.output, Nat.le_trans h.size h2.size, fun k hk hr => (h2.block k (Nat.lt_of_lt_of_le hk h.size) hr).trans (h.block k hk hr)⟩
theorem grown_set {w : World} {s i : Nat} {u : Value} : w.grownBy (w.setCell ⟨s, i, none⟩ u) (some s) :=
  ⟨rfl, rfl, rfl, by simp, fun k _ hk => heap_setCell_other w ⟨s, i, none⟩ k u (fun e => hk (by simp [e]))⟩
theorem grown_belowS {w w' : World} {s : Nat} (hb : Below w.heap.size w w') : w.grownBy w' (some s) :=
  ⟨hb.os, hb.tape, hb.output, hb.size, fun k hk _ => hb.block k hk⟩
theorem grown_of_below {B : Nat} {w w' : World} {s : Nat} (hb : Below B w w') (hB : w.heap.size ≤ B) : w.grownBy w' (some s) :=
  ⟨hb.os, hb.tape, hb.output, hb.size, fun k hk _ => hb.block k (by omega)⟩
/-- growing a row that lies behind w: w itself is as it was -/
theorem grown_new {w w1 w2 : World} {s : Nat} {o : Option Nat} (h : w.grownBy w1 (some s)) (h2 : w1.grownBy w2 o) (ho : ∀ k, o = some k → w.heap.size ≤ k) : w.grownBy w2 (some s) :=
  ⟨h2.os.trans h.os, h2.tape.trans h.tape, h2.output.trans h.output, Nat.le_trans h.size h2.size, fun k hk hr => (h2.block k (Nat.lt_of_lt_of_le hk h.size) (fun e => by have := ho k e.symm; omega)).trans (h.block k hk hr)⟩
/-- the last piece is taken off -/
theorem own_shrink {w : World} {B : Nat} {e : TypeId} {size : Nat} {p : Option Addr} {c n : Nat} {xs us : List Value} (h : w.ownsRow B e size (.slice p (n + 1) c) (n + 1) (xs ++ us)) (hu : us.length = size) : w.ownsRow B e size (.slice p n c) n xs := by
  have hl := h.1
  rw [List.length_append, hu, Nat.succ_mul] at hl
  refine ⟨by omega, ?_⟩
  rcases h.2 with ⟨_, h1⟩ | ⟨g, cap, cur, h1, h2, h3, h4, h5, h6, h7⟩
  · omega
  · cases h1
    refine .inr ⟨g, c, cur, rfl, h2, h3, by omega, h5, h6, ?_⟩
    have h8 : (cur.toList.take ((n + 1) * size)).take (n * size) = (xs ++ us).take (n * size) := by rw [h7]
    rw [List.take_take, Nat.min_eq_left (Nat.mul_le_mul_right _ (Nat.le_succ n)), show n * size = xs.length from by omega, List.take_left] at h8
    rw [show n * size = xs.length from by omega]
    exact h8
theorem own_ptr {w : World} {B : Nat} {e : TypeId} {size : Nat} {p : Option Addr} {c n m : Nat} {xs : List Value} (h : w.ownsRow B e size (.slice p n c) m xs) (hm : 0 < m) : ∃ g, p = some ⟨g, 0, none⟩ ∧ n = m ∧ m ≤ c ∧ c ≤ 9223372036854775807 := by
  rcases h.2 with ⟨_, h1⟩ | ⟨g, cap, cur, h1, h2, h3, h4, h5, h6, h7⟩
  · omega
  · cases h1
    exact ⟨g, rfl, rfl, h4, by unfold maxLen at h5; omega⟩
theorem own_setCell_ne {w : World} {B : Nat} {e : TypeId} {size : Nat} {v : Value} {n : Nat} {xs : List Value} (h : w.ownsRow B e size v n xs) {a : Addr} (ha : v.ownBlock ≠ some a.block) (u : Value) : (w.setCell a u).ownsRow B e size v n xs := by
  refine ⟨h.1, ?_⟩
  rcases h.2 with hn | ⟨g, cap, cur, rfl, h1, h2, h3⟩
  · exact .inl hn
  · exact .inr ⟨g, cap, cur, rfl, h1, by rw [Below.heap_setCell _ _ _ _ (fun e => ha (by rw [← e]; rfl))]; exact h2, h3⟩
/-- a world that holds what w holds in the blocks from lo to hi -/
def Agree (w W : World) (lo hi : Nat) : Prop := ∀ b, lo ≤ b → b < hi → W.heap[b]? = w.heap[b]?
theorem agree_below {w W : World} {B lo hi : Nat} (h : Below B w W) (hB : hi ≤ B) : Agree w W lo hi := fun b _ hb => h.block b (by omega)
theorem Agree.trans {w w1 w2 : World} {lo hi : Nat} (h : Agree w w1 lo hi) (h2 : Agree w1 w2 lo hi) : Agree w w2 lo hi := fun b h3 h4 => (h2 b h3 h4).trans (h b h3 h4)
theorem agree_grown {w W : World} {s lo hi : Nat} (h : w.grownBy W (some s)) (hhi : hi ≤ w.heap.size) (hs : s < lo ∨ hi ≤ s) : Agree w W lo hi := fun b h1 h2 => h.block b (by omega) (fun e => by cases e; omega)
theorem own_agree {w W : World} {B lo hi : Nat} {e : TypeId} {size : Nat} {v : Value} {n : Nat} {xs : List Value} (h : w.ownsRow B e size v n xs) (ha : Agree w W lo hi) (hB : lo ≤ B) (hh : w.heap.size ≤ hi) : W.ownsRow B e size v n xs := by
  refine ⟨h.1, ?_⟩
  rcases h.2 with hn | ⟨g, cap, cur, rfl, h1, h2, h3⟩
  · exact .inl hn
  · exact .inr ⟨g, cap, cur, rfl, h1, by rw [ha g (by omega) (by have := (Array.getElem?_eq_some_iff.1 h2).1; omega)]; exact h2, h3⟩
/-- numbers as cells -/
def nts (l : List Nat) : List Value := l.map fun (x : Nat) => Value.int .i64 (x : Int)
theorem nts_len (l : List Nat) : (nts l).length = l.length := by simp [nts]
theorem nts_set (l : List Nat) (i x : Nat) : nts (l.set i x) = (nts l).set i (.int .i64 (x : Int)) := by simp [nts, List.map_set]
theorem nts_at {l : List Nat} {i : Nat} (h : i < l.length) : (nts l)[i]? = some (.int .i64 (l[i] : Int)) := by simp [nts, h]
theorem nts_zero (n : Nat) : nts (List.replicate n 0) = List.replicate n (.int .i64 0) := by simp [nts]
theorem inf_int : (Tryd.prog.info? 3).map (fun i => (i.zero, i.size, i.bytes)) = some (some (.int .i64 0), 1, 8) := by kernel_rfl
theorem nts_one (l : List Nat) : ∀ u ∈ nts l, u.oneCell' = true := by
  intro u hu
  obtain ⟨x, _, rfl⟩ := List.mem_map.1 hu
  rfl
theorem nts_append (l r : List Nat) : nts (l ++ r) = nts l ++ nts r := by simp [nts]
theorem sl_newN (w : World) (us : List Value) (e : TypeId) (n size : Nat) (hn : n ≤ maxLen) (hl : us.length = n * size) : Sl (w.alloc (.cells us.toArray e)) size (.slice (some ⟨w.heap.size, 0, none⟩) n n) n us := by
  refine ⟨_, n, rfl, Nat.le_refl _, hn, hl, (fun h => by cases h), .inr ⟨_, 0, rfl, fun j u hj => ?_⟩⟩
  rw [cell_of_row _ _ (0 + j) us.toArray e (0, 0) (heap_alloc_new w _), Nat.zero_add]
  simpa using hj
/-- some pieces appended, that lie in a new block; the heap's size under a name -/
theorem wp_appN {P : Program} {W w0 : World} {ops : Array Oper} {rest : List Oper} {o : Oper} {a : Act} {Q : Exit → Act → World → Prop} (hgd : o.guard = none) (s x : Operand) (t : TypeId)
    (ho : o.op = .call { callee := .builtin .append, args := #[s, x], argTypes := #[t, t] })
    (base : Nat) (e : TypeId) {z : Value} {size bytes : Nat} (ht : P.underlying t = some (.slice e)) (hinf : (P.info? e).map (fun i => (i.zero, i.size, i.bytes)) = some (some z, size, bytes)) (hz : z.cells.size = size) (hsz : 0 < size)
    {v : Value} {n m : Nat} {xs : List Value} (hs : a.eval s = v) (hown : W.ownsRow base e size v n xs)
    {us : List Value} {H : Nat} (hx : a.eval x = .slice (some ⟨H, 0, none⟩) m m) (hH : W.heap.size = H) (hul : us.length = m * size) (hm : m ≤ 1000) (hu : ∀ u ∈ us, u.oneCell' = true)
    (h63 : n + m ≤ maxLen) (hbytes : (n + m) * bytes ≤ 140737488355328) (hbel : Below base w0 W) (hbase : base ≤ W.heap.size)
    (h : ∀ p' c' w', w'.ownsRow base e size (.slice p' (n + m) c') (n + m) (xs ++ us) → Below base w0 w' → base ≤ w'.heap.size → W.grownBy w' v.ownBlock →
      ((Value.slice p' (n + m) c').ownBlock = v.ownBlock ∨ ∃ k, W.heap.size ≤ k ∧ (Value.slice p' (n + m) c').ownBlock = some k) → wpList P ops Q rest (a.put o.dst (.slice p' (n + m) c')) w') :
    wpList P ops Q (o :: rest) a (W.alloc (.cells us.toArray e)) := by
  subst hH
  have hA := World.grownBy_alloc W (.cells us.toArray e) v.ownBlock
  refine wp_app (w0 := w0) hgd s x t ho base e ht hinf hz hsz hs (hown.alloc _) hx (sl_newN W us e m size (by unfold maxLen; omega) hul) hu h63 hbytes (hbel.alloc hbase _) (by simp; omega) ?_
  intro p' c' w' h1 h2 h3 h4 h5
  have hg : W.grownBy w' v.ownBlock :=
    ⟨h4.os.trans hA.os, h4.tape.trans hA.tape, h4.output.trans hA.output, Nat.le_trans hA.size h4.size, fun k hk hr => (h4.block k (Nat.lt_of_lt_of_le hk hA.size) hr).trans (hA.block k hk hr)⟩
  refine h p' c' w' h1 h2 h3 hg ?_
  rcases h5 with h5 | h5
  · exact .inl h5
  · exact .inr ⟨_, by simp, h5⟩
theorem nts_get {l : List Nat} {i : Nat} (h : i < l.length) : (nts l)[i]? = some (.int .i64 ((l.getD i 0 : Nat) : Int)) := by
  unfold nts
  rw [List.getElem?_map, List.getD_eq_getElem?_getD, List.getElem?_eq_getElem h]; rfl
theorem Sl.agree {w W : World} {size : Nat} {v : Value} {n : Nat} {xs : List Value} (h : Sl w size v n xs) (ha : Agree w W 0 w.heap.size) : Sl W size v n xs := by
  obtain ⟨p, cap, rfl, h1, h2, h3, h4, h5⟩ := h
  refine ⟨p, cap, rfl, h1, h2, h3, h4, ?_⟩
  rcases h5 with h5 | ⟨b, off, rfl, h5⟩
  · exact .inl h5
  · exact .inr ⟨b, off, rfl, fun j u hj => by rw [World.cell?_of_block (ha b (Nat.zero_le _) (World.block_lt_of_cell? w _ (h5 j u hj)))]; exact h5 j u hj⟩
theorem its_set (l : List Int) (i : Nat) (x : Int) : its (l.set i x) = (its l).set i (.int .i64 x) := by simp [its, List.map_set]
theorem its_at {l : List Int} {i : Nat} {x : Int} (h : l[i]? = some x) : (its l)[i]? = some (.int .i64 x) := by simp [its, h]
theorem its_rep (n : Nat) (x : Int) : its (List.replicate n x) = List.replicate n (.int .i64 x) := by simp [its]
end Go.Proofs.YtmdbcknlipahgaaDoor
