/- Edges as cells; a graph's raw numbers. -/
import Derived.Test.YtnkkhfggfhbibaaCloneE
import Derived.Test.YtnkkhfggfhbibaaRead
import Derived.Test.YtnkkhfggfhbibaaPick
import Derived.Test.YtnkkhfggfhbibaaPGraph
import Derived.Deep.LoopGhost
import Derived.Deep.DeepCutAuto
import Derived.StillTailTactics
import Derived.Laws.ResultCell
namespace Go.Proofs.Ytnkkhfggfhbibaa
open Go.RowKit
def encE (e : Eg) : List Value := [.int .i64 (e.1 : Int), .int .i64 (e.2.1 : Int), .int .i64 (e.2.2 : Int)]
def ecs (l : List Eg) : List Value := l.flatMap encE
theorem ecs_snoc (l : List Eg) (e : Eg) : ecs (l ++ [e]) = ecs l ++ encE e := by simp [ecs]
theorem ecs_append (l r : List Eg) : ecs (l ++ r) = ecs l ++ ecs r := by simp [ecs]
theorem ecs_len (l : List Eg) : (ecs l).length = l.length * 3 := by
  induction l with
  | nil => rfl
  | cons a l ih => show (encE a ++ ecs l).length = _; rw [List.length_append, ih, List.length_cons]; simp [encE]; omega
theorem ecs_one (l : List Eg) : ∀ u ∈ ecs l, u.oneCell' = true := by
  intro u hu
  obtain ⟨x, _, h⟩ := List.mem_flatMap.1 hu
  simp [encE] at h
  rcases h with rfl | rfl | rfl <;> rfl
def edgeOf (N : Nat) (r : List Int) : Eg := (pickN (r.getD 0 0) N, pickN (r.getD 1 0) N, pickN (r.getD 2 0) 10)
def edgesL (N : Nat) (raw : List (List Int)) : List Eg := (raw.take 10).map (edgeOf N)
theorem own_ne_st {w : World} {B : Nat} {e : TypeId} {size n g : Nat} {v : Value} {xs : List Value} (h : w.ownsRow B e size v n xs) (hg : g < B) (i : Nat) (u : Value) : (w.setCell ⟨g, i, none⟩ u).ownsRow B e size v n xs := own_setCell h hg u
theorem Bx.one {w : World} {g : Nat} {a : Value} (h : Bx w g [a]) : w.cell? ⟨g, 0, none⟩ = some a := by
  obtain ⟨t, h⟩ := h
  simp [World.cell?, h]
theorem bx2_of {w : World} {g : Nat} {a b : Value} {t : TypeId} (h : w.heap[g]? = some (.cells #[a, b] t (0, 0))) : Bx w g [a, b] := ⟨t, h⟩
theorem bx_set1 {w : World} {g : Nat} {a b : Value} (h : Bx w g [a, b]) (u : Value) : Bx (w.setCell ⟨g, 1, none⟩ u) g [a, u] := by
  obtain ⟨t, h⟩ := h
  refine ⟨t, ?_⟩
  have hl := (Array.getElem?_eq_some_iff.1 h).1
  unfold World.setCell
  simp [Array.getElem?_modify, h]
theorem bx_oth {w : World} {g : Nat} {cs : List Value} (h : Bx w g cs) {a : Addr} (ha : g ≠ a.block) (u : Value) : Bx (w.setCell a u) g cs := by
  obtain ⟨t, h⟩ := h
  exact ⟨t, by rw [Below.heap_setCell _ _ _ _ ha]; exact h⟩
theorem edgesL_in (N : Nat) (raw : List (List Int)) (hN : 1 ≤ N) : InG N (edgesL N raw) := by
  intro e he
  obtain ⟨r, _, rfl⟩ := List.mem_map.1 he
  exact ⟨pickN_lt _ hN, pickN_lt _ hN, pickN_lt _ (by decide)⟩
theorem edgesL_len (N : Nat) (raw : List (List Int)) : (edgesL N raw).length ≤ 10 := by
  unfold edgesL; rw [List.length_map]; exact List.length_take_le _ _
theorem ecs_at {l : List Eg} {i : Nat} (h : i < l.length) : (ecs l)[i * 3]? = some (.int .i64 (l[i].1 : Int)) ∧ (ecs l)[i * 3 + 1]? = some (.int .i64 (l[i].2.1 : Int)) ∧ (ecs l)[i * 3 + 1 + 1]? = some (.int .i64 (l[i].2.2 : Int)) := by
  induction l generalizing i with
  | nil => simp at h
  | cons a l ih =>
    cases i with
    | zero => exact ⟨rfl, rfl, rfl⟩
    | succ i =>
      have := ih (i := i) (by simpa using h)
      rw [show (i + 1) * 3 = i * 3 + 1 + 1 + 1 from by omega]
      exact this
/-- one piece appended, the heap's size under a name -/
theorem wp_app1h {P : Program} {W w0 : World} {ops : Array Oper} {rest : List Oper} {o : Oper} {a : Act} {Q : Exit → Act → World → Prop} (hgd : o.guard = none) (s x : Operand) (t : TypeId)
    (ho : o.op = .call { callee := .builtin .append, args := #[s, x], argTypes := #[t, t] })
    (base : Nat) (e : TypeId) {z : Value} {size bytes : Nat} (ht : P.underlying t = some (.slice e)) (hinf : (P.info? e).map (fun i => (i.zero, i.size, i.bytes)) = some (some z, size, bytes)) (hz : z.cells.size = size) (hsz : 0 < size)
    {v : Value} {n : Nat} {xs : List Value} (hs : a.eval s = v) (hown : W.ownsRow base e size v n xs)
    {us : List Value} {H : Nat} (hx : a.eval x = .slice (some ⟨H, 0, none⟩) 1 1) (hH : W.heap.size = H) (hul : us.length = size) (hu : ∀ u ∈ us, u.oneCell' = true)
    (h63 : n + 1 ≤ maxLen) (hbytes : (n + 1) * bytes ≤ 140737488355328) (hbel : Below base w0 W) (hbase : base ≤ W.heap.size)
    (h : ∀ p' c' w', w'.ownsRow base e size (.slice p' (n + 1) c') (n + 1) (xs ++ us) → Below base w0 w' → base ≤ w'.heap.size → W.grownBy w' v.ownBlock →
      ((Value.slice p' (n + 1) c').ownBlock = v.ownBlock ∨ ∃ k, W.heap.size ≤ k ∧ (Value.slice p' (n + 1) c').ownBlock = some k) → wpList P ops Q rest (a.put o.dst (.slice p' (n + 1) c')) w') :
    wpList P ops Q (o :: rest) a (W.alloc (.cells us.toArray e)) := by
  subst hH
  exact wp_app1 hgd s x t ho base e ht hinf hz hsz hs hown hx hul hu h63 hbytes hbel hbase h
theorem results_cell1 {fn : Func} {p : Tmp} {ty : TypeId} (h : fn.results = #[.cell p ty]) (tmps : Array Value) (P : Program) (w : World) :
    (results fn tmps).run P w = ((asAddr (tmps.getD p undef)).run P w).andThen fun a w₁ => (loadVar ty a).run P w₁ := by
  simp only [results, h]
  simp [Sem.run_bind, Result.andThen]
/-- the three cells of an edge -/
theorem Sl.edge {w : World} {p : Option Addr} {c n : Nat} {l : List Eg} (h : Sl w 3 (.slice p n c) n (ecs l)) {i : Nat} (hi : i < l.length) : ∃ b off, p = some ⟨b, off, none⟩ ∧ w.cell? ⟨b, off + i * 3, none⟩ = some (.int .i64 (l[i].1 : Int)) ∧ w.cell? ⟨b, off + i * 3 + 1, none⟩ = some (.int .i64 (l[i].2.1 : Int)) ∧ w.cell? ⟨b, off + i * 3 + 1 + 1, none⟩ = some (.int .i64 (l[i].2.2 : Int)) := by
  obtain ⟨h0, h1, h2⟩ := ecs_at hi
  obtain ⟨b, off, rfl, c0⟩ := h.get h0
  obtain ⟨b', off', he, c1⟩ := h.get h1
  cases he
  obtain ⟨b', off', he, c2⟩ := h.get h2
  cases he
  exact ⟨b, off, rfl, c0, c1, c2⟩
theorem Sl.elen {w : World} {p : Option Addr} {c n : Nat} {l : List Eg} (h : Sl w 3 (.slice p n c) n (ecs l)) : n = l.length ∧ n ≤ c ∧ c ≤ 9223372036854775807 := by
  obtain ⟨p', c', hp, h1, h2, h3, _⟩ := h
  cases hp
  rw [ecs_len] at h3
  exact ⟨by omega, h1, by unfold maxLen at h2; omega⟩
end Go.Proofs.Ytnkkhfggfhbibaa
