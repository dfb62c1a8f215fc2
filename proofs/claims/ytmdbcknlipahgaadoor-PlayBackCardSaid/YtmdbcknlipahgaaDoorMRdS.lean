/- play.Read: what its loop keeps. No program walked. -/
import Derived.Test.YtmdbcknlipahgaaDoorRdS
import Derived.Test.YtmdbcknlipahgaaDoorPPlay
import Derived.Test.YtmdbcknlipahgaaDoorBoxed
import Derived.Test.YtmdbcknlipahgaaDoorOwn3
import Derived.OwnWalkIn
namespace Go.Proofs.YtmdbcknlipahgaaDoor
open Go Go.RowKit
/-- the moves of these lines -/
def mdS (pre : List ByteArray) : List Mv := pre.map fun x => moveM x.data.toList
theorem mdS_snoc (pre : List ByteArray) (x : ByteArray) : mdS (pre ++ [x]) = mdS pre ++ [moveM x.data.toList] := by simp [mdS]
theorem mdS_len (pre : List ByteArray) : (mdS pre).length = pre.length := by simp [mdS]
/-- two results that lie in memory -/
theorem results_two {fn : Func} {p u : Tmp} {t1 t2 : TypeId} (h : fn.results = #[.cell p t1, .cell u t2]) (tmps : Array Value) (P : Program) (w : World) :
    (results fn tmps).run P w = ((asAddr (tmps.getD p undef)).run P w).andThen fun a w₁ => ((loadVar t1 a).run P w₁).andThen fun v w₂ => ((asAddr (tmps.getD u undef)).run P w₂).andThen fun b w₃ => ((loadVar t2 b).run P w₃).andThen fun v2 w₄ => .ok (.tuple #[v, v2]) w₄ := by
  simp only [results, h]
  simp [Sem.run_bind, Result.andThen]
/-- what the loop keeps: results r and e, list g, rows beyond D -/
structure MdI (w : World) (r e g D : Nat) (pre : List ByteArray) (W : World) : Prop where
  hg : ∃ p n c, W.heap[g]? = some (.cells #[.slice p n c] 35 (0, 0)) ∧ n = (mdS pre).length ∧ W.ownsRow D 37 3 (.slice p n c) n (ges (mdS pre))
  he : W.heap[e]? = some (.cells #[.int .i64 0] 25 (0, 0))
  hr : W.heap[r]? = some (.cells #[.slice none 0 0] 35 (0, 0))
  ok : ∀ x ∈ pre, goodL x.data.toList
  hb : Below w.heap.size w W
  hd : D ≤ W.heap.size
theorem MdI.kept {w : World} {r e g D : Nat} {pre : List ByteArray} {W W' : World} {row : Option Nat} (h : MdI w r e g D pre W) (hw : W.grownBy W' row)
    (hrow : ∀ k, row = some k → w.heap.size ≤ k ∧ ((k < D ∧ k ≠ r ∧ k ≠ e ∧ k ≠ g) ∨ ∃ o, W.heap[k]? = some o ∧ o.isCells = false)) : MdI w r e g D pre W' := by
  have same : ∀ k o, W.heap[k]? = some o → o.isCells = true → (k = r ∨ k = e ∨ k = g ∨ D ≤ k) → W'.heap[k]? = some o := fun k o hk hc hx => by
    refine (hw.block k (Array.getElem?_eq_some_iff.1 hk).1 (fun e => ?_)).trans hk
    obtain ⟨_, h2 | ⟨o', h3, h4⟩⟩ := hrow k e.symm
    · omega
    · rw [hk] at h3; cases h3; rw [hc] at h4; cases h4
  obtain ⟨p, n, c, h1, h2, h3⟩ := h.hg
  refine ⟨⟨p, n, c, same _ _ h1 rfl (.inr (.inr (.inl rfl))), h2, h3.1, ?_⟩, same _ _ h.he rfl (.inr (.inl rfl)), same _ _ h.hr rfl (.inl rfl), h.ok, ?_, Nat.le_trans h.hd hw.size⟩
  · rcases h3.2 with hn | ⟨b, cap, cur, hv, hb, hc, hrest⟩
    · exact .inl hn
    · exact .inr ⟨b, cap, cur, hv, hb, same _ _ hc rfl (.inr (.inr (.inr hb))), hrest⟩
  · exact h.hb.grown hw h.hb.size (fun k e => (hrow k e).1)
theorem MdI.own (w : World) (r e g D B : Nat) (hB : w.heap.size ≤ B) : OwnFrom B (MdI w r e g D) := fun pre W W' row h hw hr => h.kept hw (fun k e => ⟨by have := (hr k e).1; omega, .inr (hr k e).2⟩)
theorem MdI.ab {w : World} {r e g D b : Nat} (hb : w.heap.size ≤ b ∧ b < D ∧ b ≠ r ∧ b ≠ e ∧ b ≠ g) (pre : List ByteArray) (W W' : World) (h : MdI w r e g D pre W) (hw : W.grownBy W' (some b)) : MdI w r e g D pre W' := h.kept hw (fun k e => by cases e; exact ⟨hb.1, .inl ⟨hb.2.1, hb.2.2.1, hb.2.2.2.1, hb.2.2.2.2⟩⟩)
theorem MdI.later {w : World} {r e g D : Nat} {pre : List ByteArray} {W W' : World} (h : MdI w r e g D pre W) (hb : Below W.heap.size W W') : MdI w r e g D pre W' :=
  h.kept (row := none) ⟨hb.os, hb.tape, hb.output, hb.size, fun k hk _ => hb.block k hk⟩ (fun k e => by cases e)
/-- where a line is bad: results laid, all else let go -/
structure MdX (w : World) (r e : Nat) (L : List ByteArray → Prop) (pre : List ByteArray) (W : World) : Prop where
  bad : L pre
  he : W.heap[e]? = some (.cells #[.int .i64 3] 25 (0, 0))
  hr : W.heap[r]? = some (.cells #[.slice none 0 0] 35 (0, 0))
  hb : Below w.heap.size w W
theorem MdX.own (w : World) (r e : Nat) (L : List ByteArray → Prop) (B : Nat) (hB : w.heap.size ≤ B) : OwnFrom B (MdX w r e L) := fun pre W W' row h hw hr => by
  have same : ∀ (k : Nat) (o : Obj), W.heap[k]? = some o → o.isCells = true → W'.heap[k]? = some o := fun k o hk hc => by
    refine (hw.block k (Array.getElem?_eq_some_iff.1 hk).1 (fun e => ?_)).trans hk
    obtain ⟨_, o', h3, h4⟩ := hr k e.symm
    rw [hk] at h3; cases h3; rw [hc] at h4; cases h4
  exact ⟨h.bad, same _ _ h.he rfl, same _ _ h.hr rfl, h.hb.grown hw h.hb.size (fun k e => by have := (hr k e).1; omega)⟩
/-- the bad line's stores -/
theorem MdI.bad {w : World} {r e g D : Nat} {L : List ByteArray → Prop} {pre pre' : List ByteArray} {W : World} (h : MdI w r e g D pre W) (hl : L pre') (hre : r ≠ e) (hr : w.heap.size ≤ r) (he : w.heap.size ≤ e) :
    MdX w r e L pre' ((W.setCell ⟨r, 0, none⟩ (.slice none 0 0)).setCell ⟨e, 0, none⟩ (.int .i64 3)) := by
  have e1 := heap_setCell_same W r 0 _ _ (.slice none 0 0) h.hr
  have e2 := heap_setCell_same (W.setCell ⟨r, 0, none⟩ (.slice none 0 0)) e 0 _ _ (.int .i64 3) ((Below.heap_setCell _ _ _ e (fun x => hre x.symm)).trans h.he)
  exact ⟨hl, e2, (Below.heap_setCell _ _ _ r hre).trans e1, (h.hb.setCell (p := ⟨r, 0, none⟩) hr _).setCell (p := ⟨e, 0, none⟩) he _⟩
theorem ges_snoc2 (l : List Mv) (a b c : Int) : ges (l ++ [(a, b, c)]) = ges l ++ [Value.int .i64 a, .int .i64 b, .int .i64 c] := by unfold ges; simp
/-- a move more: the piece was made in tmp, the row grew, and the list's box was written -/
theorem MdI.more {w : World} {r e g D : Nat} {pre pre' : List ByteArray} {W w1 : World} {p p' : Option Addr} {n c c' : Nat} {tmp : Obj} {a b cc : Int} (h : MdI w r e g D pre W) (hne : r ≠ g ∧ e ≠ g) (hgw : w.heap.size ≤ g) (hrD : r < D ∧ e < D) (hgD : g < D)
    (hgr : W.heap[g]? = some (.cells #[.slice p n c] 35 (0, 0))) (hn : n = (mdS pre).length) (hrow : W.ownsRow D 37 3 (.slice p n c) n (ges (mdS pre)))
    (hown : w1.ownsRow D 37 3 (.slice p' (n + 1) c') (n + 1) (ges (mdS pre) ++ [.int .i64 a, .int .i64 b, .int .i64 cc])) (hg : (W.alloc tmp).grownBy w1 (Value.slice p n c).ownBlock)
    (hs : mdS pre' = mdS pre ++ [(a, b, cc)]) (hok : ∀ x ∈ pre', goodL x.data.toList) : MdI w r e g D pre' (w1.setCell ⟨g, 0, none⟩ (.slice p' (n + 1) c')) ∧ KeepsFrom D W (w1.setCell ⟨g, 0, none⟩ (.slice p' (n + 1) c')) := by
  have hd := h.hd
  have hsz : W.heap.size ≤ w1.heap.size := Nat.le_trans (by simp) hg.size
  have hlow : ∀ k, k < D → w1.heap[k]? = W.heap[k]? := fun k hk => by
    have hk2 : k < W.heap.size := by omega
    refine (hg.block k (by simp; omega) (fun e => ?_)).trans (Below.heap_alloc _ _ _ hk2)
    rcases hrow.2 with ⟨hv, _⟩ | ⟨b', cap, cur, hv, hb, _⟩
    · rw [hv] at e; simp [Value.ownBlock] at e
    · rw [hv] at e
      have : k = b' := by simpa [Value.ownBlock] using e
      omega
  have e1 := heap_setCell_same w1 g 0 _ _ (.slice p' (n + 1) c') ((hlow g hgD).trans hgr)
  have oth : ∀ k, k ≠ g → (w1.setCell ⟨g, 0, none⟩ (.slice p' (n + 1) c')).heap[k]? = w1.heap[k]? := fun k hk => Below.heap_setCell _ _ _ k hk
  refine ⟨⟨⟨p', n + 1, c', e1, by rw [hs]; simp [hn], ?_⟩, (oth e hne.2).trans ((hlow e hrD.2).trans h.he), (oth r hne.1).trans ((hlow r hrD.1).trans h.hr), hok, ?_, by rw [World.size_setCell]; omega⟩, ?_, ?_⟩
  · rw [hs, ges_snoc2]
    refine ⟨hown.1, ?_⟩
    rcases hown.2 with hx | ⟨b', cap, cur, hv, hb, hc, hrest⟩
    · exact .inl hx
    · exact .inr ⟨b', cap, cur, hv, hb, (oth b' (by omega)).trans hc, hrest⟩
  · refine Below.setCell ?_ (p := ⟨g, 0, none⟩) hgw _
    refine (h.hb.alloc (by have := h.hb.size; omega) tmp).grown hg (by simp; omega) (fun k e => ?_)
    rcases hrow.2 with ⟨hv, _⟩ | ⟨b', cap, cur, hv, hb, _⟩
    · rw [hv] at e; simp [Value.ownBlock] at e
    · rw [hv] at e
      have : b' = k := by simpa [Value.ownBlock] using e
      omega
  · rw [World.size_setCell]; exact hsz
  · intro k o hk hko ho
    refine (oth k (by omega)).trans ((hg.block k (by have := (Array.getElem?_eq_some_iff.1 hko).1; simp; omega) (fun e => ?_)).trans ((Below.heap_alloc _ _ _ (Array.getElem?_eq_some_iff.1 hko).1).trans hko))
    rcases hrow.2 with ⟨hv, _⟩ | ⟨b', cap, cur, hv, hb, hc, _⟩
    · rw [hv] at e; simp [Value.ownBlock] at e
    · rw [hv] at e
      have : k = b' := by simpa [Value.ownBlock] using e
      subst this
      rw [hko] at hc; cases hc; cases ho
/-- the end: two results stored, the rounds' block taken -/
theorem end_two {w w3 : World} {r e D : Nat} {a b u v : Value} {T1 T2 : TypeId} (hr : w3.heap[r]? = some (.cells #[a] T1 (0, 0))) (he : w3.heap[e]? = some (.cells #[b] T2 (0, 0))) (hre : r ≠ e) (hw : w.heap.size ≤ r) (hwe : w.heap.size ≤ e) (hrD : r < D) (heD : e < D) (hb : Below w.heap.size w w3) (hK : ((w3.setCell ⟨r, 0, none⟩ u).setCell ⟨e, 0, none⟩ v).heap[D]? = some (.deferred (some []))) :
    (((w3.setCell ⟨r, 0, none⟩ u).setCell ⟨e, 0, none⟩ v).putObj D (.deferred none)).cell? ⟨r, 0, none⟩ = some u ∧ (((w3.setCell ⟨r, 0, none⟩ u).setCell ⟨e, 0, none⟩ v).putObj D (.deferred none)).cell? ⟨e, 0, none⟩ = some v ∧
    Below w.heap.size w (((w3.setCell ⟨r, 0, none⟩ u).setCell ⟨e, 0, none⟩ v).putObj D (.deferred none)) ∧
    (∀ D0 t k q n c xs, r < D0 → e < D0 → w3.ownsRow D0 t k (.slice q n c) n xs → (((w3.setCell ⟨r, 0, none⟩ u).setCell ⟨e, 0, none⟩ v).putObj D (.deferred none)).ownsRow D0 t k (.slice q n c) n xs) := by
  have e1 : (w3.setCell ⟨r, 0, none⟩ u).heap[r]? = some (.cells #[u] T1 (0, 0)) := heap_setCell_same w3 r 0 _ _ _ hr
  have e2 : ((w3.setCell ⟨r, 0, none⟩ u).setCell ⟨e, 0, none⟩ v).heap[e]? = some (.cells #[v] T2 (0, 0)) := heap_setCell_same _ e 0 _ _ _ ((Below.heap_setCell _ _ _ e (fun x => hre x.symm)).trans he)
  have e3 : (((w3.setCell ⟨r, 0, none⟩ u).setCell ⟨e, 0, none⟩ v).putObj D (.deferred none)).heap[r]? = some (.cells #[u] T1 (0, 0)) := (World.putObj_heap_other (by omega)).trans ((Below.heap_setCell _ _ _ r hre).trans e1)
  have e4 : (((w3.setCell ⟨r, 0, none⟩ u).setCell ⟨e, 0, none⟩ v).putObj D (.deferred none)).heap[e]? = some (.cells #[v] T2 (0, 0)) := (World.putObj_heap_other (by omega)).trans e2
  refine ⟨by rw [cell_of_row _ r 0 _ _ _ e3]; rfl, by rw [cell_of_row _ e 0 _ _ _ e4]; rfl, ?_, fun D0 t k q n c xs hr0 he0 ho => ownsRow_putObj ⟨ho.1, ?_⟩ _ hK rfl⟩
  · refine ((hb.setCell (p := ⟨r, 0, none⟩) hw _).setCell (p := ⟨e, 0, none⟩) hwe _).grown (grownBy_putObj' _ D _) ?_ (fun k e => by cases e; omega)
    rw [World.size_setCell, World.size_setCell]; exact hb.size
  · rcases ho.2 with hx | ⟨b', cap, cur, hv, hb', hc, hrest⟩
    · exact .inl hx
    · exact .inr ⟨b', cap, cur, hv, hb', (Below.heap_setCell _ _ _ b' (by show b' ≠ e; omega)).trans ((Below.heap_setCell _ _ _ b' (by show b' ≠ r; omega)).trans hc), hrest⟩
/-- one piece appended inside a fence -/
theorem wp_app_in {F : Fence} {nn : Nat} {P : Program} {W w0 : World} {ops : Array Oper} {rest : List Oper} {o : Oper} {a : Act} {Q : Exit → Act → World → Prop} (hgd : o.guard = none) (s x : Operand) (t : TypeId)
    (ho : o.op = .call { callee := .builtin .append, args := #[s, x], argTypes := #[t, t] })
    (base : Nat) (e : TypeId) {z : Value} {size bytes : Nat} (ht : P.underlying t = some (.slice e)) (hinf : (P.info? e).map (fun i => (i.zero, i.size, i.bytes)) = some (some z, size, bytes)) (hz : z.cells.size = size) (hsz : 0 < size)
    {v : Value} {n : Nat} {xs : List Value} (hs : a.eval s = v) (hown : W.ownsRow base e size v n xs)
    {p : Option Addr} {m c : Nat} {news : List Value} (hx : a.eval x = .slice p m c) (hr : Sl W size (.slice p m c) m news) (h1 : ∀ u ∈ news, u.oneCell' = true)
    (h63 : n + m ≤ maxLen) (hbytes : (n + m) * bytes ≤ 140737488355328) (hbel : Below base w0 W) (hbase : base ≤ W.heap.size)
    (h : ∀ p' c' w', w'.ownsRow base e size (.slice p' (n + m) c') (n + m) (xs ++ news) → Below base w0 w' → base ≤ w'.heap.size → W.grownBy w' v.ownBlock → wpListIn F nn P ops Q rest (a.put o.dst (.slice p' (n + m) c')) w') :
    wpListIn F nn P ops Q (o :: rest) a W := by
  refine wpListIn_plain hgd fun K hK => ?_
  obtain ⟨v', w', hrun, h2, h3, h4⟩ := run_app (P := P) base t o.type e ht hinf hz hsz hown hr h1 h63 hbytes hbase
  unfold Oper.wpIn
  refine ⟨?_, ?_⟩
  · simp [Oper.about, ho, resolve, Target.leads, Sem.run_pure]
  · rw [Oper.semAt_plain F _ _ (by rw [ho]; intro c hc'; cases hc')]
    simp [execOp, ho, resolve, invoke, builtin, hs, hx, hrun, Result.andThen]
    obtain ⟨p', c', rfl⟩ := own_slice h2
    exact hK _ _ (h p' c' w' h2 (hbel.grown h3 hbase (fun k hk => (hown.lt k hk).1)) (Nat.le_trans hbase h3.size) h3)
end Go.Proofs.YtmdbcknlipahgaaDoor
