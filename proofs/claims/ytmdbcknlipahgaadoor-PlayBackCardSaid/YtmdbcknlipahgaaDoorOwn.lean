/- Laws of memory that several walks use: one piece appended to a slice of the call's own, what lies below a place stays as it was. -/
import Derived.Test.YtmdbcknlipahgaaDoorRows
import Derived.Test.YtmdbcknlipahgaaDoorPPut
import Derived.WalkKit
import Derived.WalkSpells
import Derived.WalkLawsBesides
import Derived.Lib.Hide
import Derived.Maps.AppendAt
namespace Go.Proofs.YtmdbcknlipahgaaDoor
open Go.RowKit

theorem inf_u8 : (Tryd.prog.info? 5).map (fun i => (i.zero, i.size, i.bytes)) = some (some (.int .u8 0), 1, 1) := by kernel_rfl


theorem own_slice {w : World} {base : Nat} {e : TypeId} {size : Nat} {v : Value} {n : Nat} {xs : List Value} (h : w.ownsRow base e size v n xs) : ∃ p c, v = .slice p n c := by
  rcases h.2 with ⟨rfl, rfl⟩ | ⟨g, cap, cur, rfl, _⟩
  · exact ⟨_, _, rfl⟩
  · exact ⟨_, _, rfl⟩
theorem add_none (b off j : Nat) : (⟨b, off, none⟩ : Addr).add j = ⟨b, off + j, none⟩ := by unfold Addr.add; split <;> simp_all

/-- a slice that may be read: n pieces of 'size' cells each, which hold xs -/
def Sl (w : World) (size : Nat) (v : Value) (n : Nat) (xs : List Value) : Prop :=
  ∃ p cap, v = .slice p n cap ∧ n ≤ cap ∧ cap ≤ maxLen ∧ xs.length = n * size ∧ (p = none → cap = 0) ∧
    (xs = [] ∨ ∃ b off, p = some ⟨b, off, none⟩ ∧ ∀ j u, xs[j]? = some u → w.cell? ⟨b, off + j, none⟩ = some u)

theorem run_app {P : Program} {W : World} (base : Nat) (t ty e : TypeId) {z : Value} {size bytes : Nat} (ht : P.underlying t = some (.slice e)) (hinf : (P.info? e).map (fun i => (i.zero, i.size, i.bytes)) = some (some z, size, bytes)) (hz : z.cells.size = size) (hsz : 0 < size)
    {v : Value} {n : Nat} {xs : List Value} (hown : W.ownsRow base e size v n xs)
    {p : Option Addr} {m c : Nat} {news : List Value} (hr : Sl W size (.slice p m c) m news) (h1 : ∀ u ∈ news, u.oneCell' = true)
    (h63 : n + m ≤ maxLen) (hbytes : (n + m) * bytes ≤ 140737488355328) (hbase : base ≤ W.heap.size) :
    ∃ v' w', (Builtin.append_ #[t, t] ty #[v, .slice p m c]).run P W = .ok v' w' ∧ w'.ownsRow base e size v' (n + m) (xs ++ news) ∧ W.grownBy w' v.ownBlock ∧
      (v'.ownBlock = v.ownBlock ∨ v'.ownBlock = some W.heap.size) := by
  obtain ⟨i0, hi, hz0, hz1, hz2⟩ := info_parts hinf
  obtain ⟨p', c', hp, hmc, hcm, hlen, hpn, hcells⟩ := hr
  cases hp
  rcases p with _ | ad
  · obtain rfl : c = 0 := hpn rfl
    obtain rfl : m = 0 := by omega
    have hn : news = [] := List.eq_nil_of_length_eq_zero (by simpa using hlen)
    subst hn
    refine ⟨v, W, ?_, by simpa using hown, World.grownBy.refl W _, .inl rfl⟩
    rcases hown.2 with ⟨rfl, rfl⟩ | ⟨g, cap, cur, rfl, _, _, hnc, _⟩
    · simp [Builtin.append_, run_underlying ht, sizeOf, typeInfo, hi, Builtin.lenOf, Builtin.firstCells]
    · simp [Builtin.append_, run_underlying ht, sizeOf, typeInfo, hi, Builtin.lenOf, Builtin.firstCells, hnc, storeCells]
  · have hc : ∀ j u, news[j]? = some u → W.cell? (ad.add j) = some u := by
      intro j u hu
      rcases hcells with rfl | ⟨b, off, hpe, hcells⟩
      · simp at hu
      · cases hpe
        rw [add_none]
        exact hcells j u hu
    obtain ⟨v', w', hrun, h2, h3, _, h5⟩ := run_append_own_at (P := P) W base t ty e i0 z size bytes ht hi hz0 hz1 hz2 hz hsz v n xs hown ad m c news hlen hc h1 h63 hbytes hbase
    exact ⟨v', w', hrun, h2, h3, h5⟩

/-- a readable slice appended to a slice of the call's own -/
theorem wp_app {P : Program} {W w0 : World} {ops : Array Oper} {rest : List Oper} {o : Oper} {a : Act} {Q : Exit → Act → World → Prop} (hgd : o.guard = none) (s x : Operand) (t : TypeId)
    (ho : o.op = .call { callee := .builtin .append, args := #[s, x], argTypes := #[t, t] })
    (base : Nat) (e : TypeId) {z : Value} {size bytes : Nat} (ht : P.underlying t = some (.slice e)) (hinf : (P.info? e).map (fun i => (i.zero, i.size, i.bytes)) = some (some z, size, bytes)) (hz : z.cells.size = size) (hsz : 0 < size)
    {v : Value} {n : Nat} {xs : List Value} (hs : a.eval s = v) (hown : W.ownsRow base e size v n xs)
    {p : Option Addr} {m c : Nat} {news : List Value} (hx : a.eval x = .slice p m c) (hr : Sl W size (.slice p m c) m news) (h1 : ∀ u ∈ news, u.oneCell' = true)
    (h63 : n + m ≤ maxLen) (hbytes : (n + m) * bytes ≤ 140737488355328) (hbel : Below base w0 W) (hbase : base ≤ W.heap.size)
    (h : ∀ p' c' w', w'.ownsRow base e size (.slice p' (n + m) c') (n + m) (xs ++ news) → Below base w0 w' → base ≤ w'.heap.size → W.grownBy w' v.ownBlock →
      ((Value.slice p' (n + m) c').ownBlock = v.ownBlock ∨ (Value.slice p' (n + m) c').ownBlock = some W.heap.size) → wpList P ops Q rest (a.put o.dst (.slice p' (n + m) c')) w') :
    wpList P ops Q (o :: rest) a W := by
  refine wpList_plain hgd fun K hK => ?_
  obtain ⟨v', w', hrun, h2, h3, h4⟩ := run_app (P := P) base t o.type e ht hinf hz hsz hown hr h1 h63 hbytes hbase
  unfold Oper.wp execOp
  simp only [ho, resolve, invoke, builtin, Sem.run_bind, Sem.run_pure, Result.andThen_ok, List.map_toArray, List.map_cons, List.map_nil, hs, hx, hrun]
  obtain ⟨p', c', rfl⟩ := own_slice h2
  exact hK _ _ (h p' c' w' h2 (hbel.grown h3 hbase (fun k hk => (hown.lt k hk).1)) (Nat.le_trans hbase h3.size) h3 h4)

/-- one piece appended to a slice of the call's own: the piece lies in a new block of its own -/
theorem wp_app1 {P : Program} {W w0 : World} {ops : Array Oper} {rest : List Oper} {o : Oper} {a : Act} {Q : Exit → Act → World → Prop} (hgd : o.guard = none) (s x : Operand) (t : TypeId)
    (ho : o.op = .call { callee := .builtin .append, args := #[s, x], argTypes := #[t, t] })
    (base : Nat) (e : TypeId) {z : Value} {size bytes : Nat} (ht : P.underlying t = some (.slice e)) (hinf : (P.info? e).map (fun i => (i.zero, i.size, i.bytes)) = some (some z, size, bytes)) (hz : z.cells.size = size) (hsz : 0 < size)
    {v : Value} {n : Nat} {xs : List Value} (hs : a.eval s = v) (hown : W.ownsRow base e size v n xs)
    {us : List Value} (hx : a.eval x = .slice (some ⟨W.heap.size, 0, none⟩) 1 1) (hul : us.length = size) (hu : ∀ u ∈ us, u.oneCell' = true)
    (h63 : n + 1 ≤ maxLen) (hbytes : (n + 1) * bytes ≤ 140737488355328) (hbel : Below base w0 W) (hbase : base ≤ W.heap.size)
    (h : ∀ p' c' w', w'.ownsRow base e size (.slice p' (n + 1) c') (n + 1) (xs ++ us) → Below base w0 w' → base ≤ w'.heap.size → W.grownBy w' v.ownBlock →
      ((Value.slice p' (n + 1) c').ownBlock = v.ownBlock ∨ ∃ k, W.heap.size ≤ k ∧ (Value.slice p' (n + 1) c').ownBlock = some k) → wpList P ops Q rest (a.put o.dst (.slice p' (n + 1) c')) w') :
    wpList P ops Q (o :: rest) a (W.alloc (.cells us.toArray e)) := by
  have hA := World.grownBy_alloc W (.cells us.toArray e) v.ownBlock
  refine wp_app (w0 := w0) hgd s x t ho base e ht hinf hz hsz hs (hown.alloc _) hx ⟨_, 1, rfl, Nat.le_refl _, by decide, by omega, (fun h => by cases h), .inr ⟨_, 0, rfl, ?_⟩⟩ hu h63 hbytes (hbel.alloc hbase _) (by simp; omega) ?_
  · intro j u hj
    rw [cell_of_row _ _ (0 + j) us.toArray e (0, 0) (heap_alloc_new W _), Nat.zero_add]
    simpa using hj
  · intro p' c' w' h1 h2 h3 h4 h5
    have hg : W.grownBy w' v.ownBlock :=
      ⟨h4.os.trans hA.os, h4.tape.trans hA.tape, h4.output.trans hA.output, Nat.le_trans hA.size h4.size, fun k hk hr => (h4.block k (Nat.lt_of_lt_of_le hk hA.size) hr).trans (hA.block k hk hr)⟩
    refine h p' c' w' h1 h2 h3 hg ?_
    rcases h5 with h5 | h5
    · exact .inl h5
    · exact .inr ⟨_, by simp, h5⟩

/-- what the walk is told of a slice of integers that came in (as the kit's skeleton has it): it is nil; or it leads to a row of 'cap' cells -/
def IsRow (k : IntKind) (w : World) (a : Option Addr) (len cap : Nat) (zs : List Int) : Prop :=
  (a = none ∧ len = 0 ∧ cap = 0 ∧ zs = []) ∨
  ∃ x, a = some x ∧ len ≤ cap ∧ cap ≤ maxLen ∧ zs.length = cap ∧ (∀ i, i < zs.length → w.cell? (x.add i) = some (.int k (zs.getD i 0))) ∧ ∀ n ∈ zs, (Lit.int k n).wf = true

/-- bytes that may be read -/
def IsB (w : World) (v : Value) (l : List Nat) : Prop := Sl w 1 v l.length (bys l) ∧ AllB l
/-- integers as cells -/
def its (l : List Int) : List Value := l.map fun x => Value.int .i64 x
/-- integers that may be read -/
def IsI (w : World) (v : Value) (l : List Int) : Prop := Sl w 1 v l.length (its l) ∧ ∀ x ∈ l, -9223372036854775808 ≤ x ∧ x ≤ 9223372036854775807

theorem Sl.below {w w' : World} {size : Nat} {v : Value} {n : Nat} {xs : List Value} (h : Sl w size v n xs) {B : Nat} (hb : Below B w w') (hB : ∀ b off c l, v = .slice (some ⟨b, off, none⟩) l c → b < B) : Sl w' size v n xs := by
  obtain ⟨p, cap, rfl, h1, h2, h3, h4, h5⟩ := h
  refine ⟨p, cap, rfl, h1, h2, h3, h4, ?_⟩
  rcases h5 with h5 | ⟨b, off, rfl, h5⟩
  · exact .inl h5
  · exact .inr ⟨b, off, rfl, fun j u hj => by rw [hb.cell (p := ⟨b, off + j, none⟩) (hB b off _ _ rfl)]; exact h5 j u hj⟩
theorem Sl.later {w w' : World} {size : Nat} {v : Value} {n : Nat} {xs : List Value} (h : Sl w size v n xs) (hb : Below w.heap.size w w') : Sl w' size v n xs := by
  obtain ⟨p, cap, rfl, h1, h2, h3, h4, h5⟩ := h
  refine ⟨p, cap, rfl, h1, h2, h3, h4, ?_⟩
  rcases h5 with h5 | ⟨b, off, rfl, h5⟩
  · exact .inl h5
  · exact .inr ⟨b, off, rfl, fun j u hj => by rw [hb.cell (p := ⟨b, off + j, none⟩) (World.block_lt_of_cell? w _ (h5 j u hj))]; exact h5 j u hj⟩
theorem IsB.later {w w' : World} {v : Value} {l : List Nat} (h : IsB w v l) (hb : Below w.heap.size w w') : IsB w' v l := ⟨h.1.later hb, h.2⟩
theorem IsI.later {w w' : World} {v : Value} {l : List Int} (h : IsI w v l) (hb : Below w.heap.size w w') : IsI w' v l := ⟨h.1.later hb, h.2⟩

theorem Sl.get {w : World} {size : Nat} {p : Option Addr} {cap n : Nat} {xs : List Value} (h : Sl w size (.slice p n cap) n xs) {j : Nat} {u : Value} (hj : xs[j]? = some u) : ∃ b off, p = some ⟨b, off, none⟩ ∧ w.cell? ⟨b, off + j, none⟩ = some u := by
  obtain ⟨p', cap', hp, h1, h2, h3, h4, h5⟩ := h
  cases hp
  rcases h5 with rfl | ⟨b, off, rfl, h5⟩
  · simp at hj
  · exact ⟨b, off, rfl, h5 j u hj⟩

theorem Sl.of_own {w : World} {base : Nat} {e : TypeId} {size : Nat} {v : Value} {n : Nat} {xs : List Value} (h : w.ownsRow base e size v n xs) : Sl w size v n xs := by
  have hc := fun g => h.cells (g := g)
  obtain ⟨hl, h⟩ := h
  rcases h with ⟨rfl, rfl⟩ | ⟨g, cap, cur, rfl, h1, h2, h3, h4, h5, h6⟩
  · exact ⟨none, 0, rfl, Nat.le_refl _, by decide, hl, fun _ => rfl, .inl (List.eq_nil_of_length_eq_zero (by simpa using hl))⟩
  · refine ⟨_, cap, rfl, h3, h4, hl, (fun h => by cases h), .inr ⟨g, 0, rfl, fun j u hj => ?_⟩⟩
    have := hc g rfl j u hj
    rw [add_none] at this
    exact this
theorem IsB.of_own {w : World} {base : Nat} {e : TypeId} {v : Value} {l : List Nat} {n : Nat} (h : w.ownsRow base e 1 v n (bys l)) (hl : AllB l) : IsB w v l := by
  have hn : n = l.length := by have := h.1; simpa [bys] using this.symm
  subst hn
  exact ⟨Sl.of_own h, hl⟩
theorem IsI.of_own {w : World} {base : Nat} {e : TypeId} {v : Value} {l : List Int} {n : Nat} (h : w.ownsRow base e 1 v n (its l)) (hl : ∀ x ∈ l, -9223372036854775808 ≤ x ∧ x ≤ 9223372036854775807) : IsI w v l := by
  have hn : n = l.length := by have := h.1; simpa [its] using this.symm
  subst hn
  exact ⟨Sl.of_own h, hl⟩

theorem isRow_sl {k : IntKind} {w : World} {a : Option Addr} {len cap : Nat} {zs : List Int} (h : IsRow k w a len cap zs) :
    Sl w 1 (.slice a len cap) len ((zs.take len).map (Value.int k)) ∧ (zs.take len).length = len ∧ ∀ n ∈ zs.take len, (Lit.int k n).wf = true := by
  rcases h with ⟨rfl, rfl, rfl, rfl⟩ | ⟨x, rfl, hl, hm, hz, hcell, hwz⟩
  · exact ⟨⟨none, 0, rfl, Nat.le_refl _, by decide, by simp, fun _ => rfl, .inl rfl⟩, rfl, by simp⟩
  · have hlen : (zs.take len).length = len := by rw [List.length_take]; omega
    refine ⟨⟨_, cap, rfl, hl, hm, by rw [List.length_map, hlen]; omega, (fun h => by cases h), ?_⟩, hlen, fun n hn => hwz n (List.mem_of_mem_take hn)⟩
    by_cases h0 : len = 0
    · left; subst h0; simp
    · right
      have hc := hcell 0 (by omega)
      obtain ⟨b, off, spot⟩ := x
      have hspot : spot = none := by simpa [Addr.add] using World.cell?_spot hc
      subst hspot
      refine ⟨b, off, rfl, fun j u hj => ?_⟩
      have hj' : j < len := by
        have := (List.getElem?_eq_some_iff.1 hj).1
        rw [List.length_map, hlen] at this
        exact this
      have h2 := hcell j (by omega)
      have h3 : ((zs.take len).map (Value.int k))[j]? = some (.int k (zs.getD j 0)) := by
        rw [List.getElem?_map, List.getElem?_take_of_lt hj', List.getD_eq_getElem?_getD, List.getElem?_eq_getElem (by omega)]; rfl
      rw [h3] at hj
      cases hj
      rw [add_none] at h2
      exact h2
theorem isB_of {w : World} {a : Option Addr} {len cap : Nat} {zs : List Int} (h : IsRow .u8 w a len cap zs) : ∃ l, IsB w (.slice a len cap) l := by
  obtain ⟨h1, h2, h3⟩ := isRow_sl h
  have hb : ∀ n ∈ zs.take len, 0 ≤ n ∧ n ≤ 255 := fun n hn => by simpa [Lit.wf, IntKind.min, IntKind.max, IntKind.signed, IntKind.bits] using h3 n hn
  have e : (zs.take len).map (Value.int .u8) = bys ((zs.take len).map Int.toNat) := by
    rw [bys, List.map_map]
    refine List.map_congr_left fun n hn => ?_
    have := hb n hn
    show Value.int .u8 n = Value.int .u8 ((n.toNat : Nat) : Int)
    rw [Int.toNat_of_nonneg this.1]
  refine ⟨(zs.take len).map Int.toNat, ?_, ?_⟩
  · rw [← e, List.length_map, h2]; exact h1
  · intro x hx
    obtain ⟨n, hn, rfl⟩ := List.mem_map.1 hx
    have := hb n hn
    omega
theorem isI_of {w : World} {a : Option Addr} {len cap : Nat} {zs : List Int} (h : IsRow .i64 w a len cap zs) : ∃ l, IsI w (.slice a len cap) l := by
  obtain ⟨h1, h2, h3⟩ := isRow_sl h
  exact ⟨zs.take len, by rw [h2]; exact h1, fun n hn => by simpa [Lit.wf, IntKind.min, IntKind.max, IntKind.signed, IntKind.bits] using h3 n hn⟩

theorem own_later {w w' : World} {base : Nat} {e : TypeId} {size : Nat} {v : Value} {n : Nat} {xs : List Value} (h : w.ownsRow base e size v n xs) (hb : Below w.heap.size w w') : w'.ownsRow base e size v n xs := by
  refine ⟨h.1, ?_⟩
  rcases h.2 with hn | ⟨g, cap, cur, rfl, h1, h2, h3⟩
  · exact .inl hn
  · exact .inr ⟨g, cap, cur, rfl, h1, by rw [hb.block g (Array.getElem?_eq_some_iff.1 h2).1]; exact h2, h3⟩
theorem own_mono {w : World} {base base' : Nat} {e : TypeId} {size : Nat} {v : Value} {n : Nat} {xs : List Value} (h : w.ownsRow base e size v n xs) (hb : base' ≤ base) : w.ownsRow base' e size v n xs := by
  refine ⟨h.1, ?_⟩
  rcases h.2 with hn | ⟨g, cap, cur, rfl, h1, h2, h3⟩
  · exact .inl hn
  · exact .inr ⟨g, cap, cur, rfl, by omega, h2, h3⟩
/-- a call's world behind the worlds of the caller's own -/
theorem below_step {B : Nat} {w w1 w2 : World} (h : Below B w w1) (hB : B ≤ w1.heap.size) (h2 : Below w1.heap.size w1 w2) : Below B w w2 ∧ B ≤ w2.heap.size := ⟨h.trans (h2.mono hB), Nat.le_trans hB h2.size⟩
theorem IsB.lens {w : World} {p : Option Addr} {c n : Nat} {l : List Nat} (h : IsB w (.slice p n c) l) : n = l.length ∧ n ≤ c ∧ c ≤ 9223372036854775807 := by
  obtain ⟨⟨p', c', hp, h1, h2, _⟩, _⟩ := h
  cases hp
  exact ⟨rfl, h1, by unfold maxLen at h2; omega⟩
theorem IsI.lens {w : World} {p : Option Addr} {c n : Nat} {l : List Int} (h : IsI w (.slice p n c) l) : n = l.length ∧ n ≤ c ∧ c ≤ 9223372036854775807 := by
  obtain ⟨⟨p', c', hp, h1, h2, _⟩, _⟩ := h
  cases hp
  exact ⟨rfl, h1, by unfold maxLen at h2; omega⟩
theorem IsB.val {w : World} {v : Value} {l : List Nat} (h : IsB w v l) : ∃ p c, v = .slice p l.length c := by
  obtain ⟨⟨p, c, rfl, _⟩, _⟩ := h
  exact ⟨p, c, rfl⟩
theorem IsI.val {w : World} {v : Value} {l : List Int} (h : IsI w v l) : ∃ p c, v = .slice p l.length c := by
  obtain ⟨⟨p, c, rfl, _⟩, _⟩ := h
  exact ⟨p, c, rfl⟩
theorem Sl.take {w : World} {p : Option Addr} {c n : Nat} {xs : List Value} (h : Sl w 1 (.slice p n c) n xs) {k : Nat} (hk : k ≤ n) : Sl w 1 (.slice p k c) k (xs.take k) := by
  obtain ⟨p', c', hp, h1, h2, h3, h4, h5⟩ := h
  cases hp
  refine ⟨p, c, rfl, by omega, h2, by rw [List.length_take]; omega, h4, ?_⟩
  rcases h5 with rfl | ⟨b, off, rfl, h5⟩
  · exact .inl (by simp)
  · refine .inr ⟨b, off, rfl, fun j u hj => h5 j u ?_⟩
    rw [List.getElem?_take] at hj
    split at hj
    · exact hj
    · cases hj
theorem bys_take (l : List Nat) (k : Nat) : bys (l.take k) = (bys l).take k := by simp [bys, List.map_take]
theorem IsB.take {w : World} {p : Option Addr} {c n : Nat} {l : List Nat} (h : IsB w (.slice p n c) l) {k : Nat} (hk : k ≤ n) : IsB w (.slice p k c) (l.take k) := by
  obtain ⟨hn, _⟩ := h.lens
  subst hn
  have hs := h.1.take hk
  have e : (l.take k).length = k := by rw [List.length_take]; omega
  exact ⟨by rw [e, bys_take]; exact hs, fun x hx => h.2 x (List.mem_of_mem_take hx)⟩
theorem below_undrew {B : Nat} {w w' : World} (h : Below B w.drew w') : Below B w w' := ⟨h.os, h.tape, h.output, h.size, h.block⟩
theorem IsB.drew {w : World} {v : Value} {l : List Nat} (h : IsB w v l) : IsB w.drew v l := h
theorem below_setRow {B : Nat} {w w' : World} (h : Below B w w') {g : Nat} (hg : B ≤ g) (cs : Array Value) : Below B w (w'.setRow g cs) :=
  ⟨h.os, h.tape, h.output, by rw [setRow_size]; exact h.size, fun k hk => by rw [setRow_other _ _ _ _ (by omega)]; exact h.block k hk⟩
theorem own_form {w : World} {base : Nat} {e : TypeId} {size n cap : Nat} {p : Option Addr} {xs : List Value} (h : w.ownsRow base e size (.slice p n cap) n xs) (hn : 0 < n) : ∃ g, p = some ⟨g, 0, none⟩ ∧ base ≤ g ∧ g < w.heap.size := by
  rcases h.2 with ⟨h1, h2⟩ | ⟨g, cap', cur, h1, h2, h3, _⟩
  · omega
  · cases h1
    exact ⟨g, rfl, h2, (Array.getElem?_eq_some_iff.1 h3).1⟩
theorem Sl.drop {w : World} {b off c n : Nat} {xs : List Value} (h : Sl w 1 (.slice (some ⟨b, off, none⟩) n c) n xs) {k : Nat} (hk : k ≤ n) : Sl w 1 (.slice (some ⟨b, off + k, none⟩) (n - k) (c - k)) (n - k) (xs.drop k) := by
  obtain ⟨p', c', hp, h1, h2, h3, h4, h5⟩ := h
  cases hp
  refine ⟨_, _, rfl, by omega, by omega, by rw [List.length_drop]; omega, (fun h => by cases h), ?_⟩
  rcases h5 with rfl | ⟨b', off', hb, h5⟩
  · exact .inl (by simp)
  · cases hb
    refine .inr ⟨b, off + k, rfl, fun j u hj => ?_⟩
    rw [List.getElem?_drop] at hj
    have := h5 _ u hj
    rw [Nat.add_assoc]
    exact this
theorem bys_drop (l : List Nat) (k : Nat) : bys (l.drop k) = (bys l).drop k := by simp [bys, List.map_drop]
theorem IsB.drop {w : World} {b off c n : Nat} {l : List Nat} (h : IsB w (.slice (some ⟨b, off, none⟩) n c) l) {k : Nat} (hk : k ≤ n) : IsB w (.slice (some ⟨b, off + k, none⟩) (n - k) (c - k)) (l.drop k) := by
  obtain ⟨hn, _⟩ := h.lens
  subst hn
  have hs := h.1.drop hk
  have e : (l.drop k).length = l.length - k := List.length_drop
  exact ⟨by rw [e, bys_drop]; exact hs, fun x hx => h.2 x (List.mem_of_mem_drop hx)⟩
/-- a readable slice is one whatever its capacity is said to be -/
theorem IsB.cap {w : World} {p : Option Addr} {c n : Nat} {l : List Nat} (h : IsB w (.slice p n c) l) {c' : Nat} (h1 : n ≤ c') (h2 : c' ≤ c) : IsB w (.slice p n c') l := by
  obtain ⟨hn, _⟩ := h.lens
  subst hn
  obtain ⟨⟨p', c0, hp, h3, h4, h5, h6, h7⟩, h8⟩ := h
  cases hp
  exact ⟨⟨p, c', rfl, h1, by omega, h5, fun h => by have := h6 h; omega, h7⟩, h8⟩
theorem IsB.some_ {w : World} {p : Option Addr} {c n : Nat} {l : List Nat} (h : IsB w (.slice p n c) l) (hn : 0 < n) : ∃ b off, p = some ⟨b, off, none⟩ := by
  obtain ⟨hn', _⟩ := h.lens
  subst hn'
  obtain ⟨b, off, hp, _⟩ := h.1.get (j := 0) (u := .int .u8 ((l[0] : Nat) : Int)) (by unfold bys; rw [List.getElem?_map, List.getElem?_eq_getElem hn]; rfl)
  exact ⟨b, off, hp⟩
end Go.Proofs.YtmdbcknlipahgaaDoor
