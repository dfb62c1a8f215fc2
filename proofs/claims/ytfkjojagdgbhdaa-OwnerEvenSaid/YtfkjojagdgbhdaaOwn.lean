/- Laws of memory that several walks use: one piece appended to a slice of the call's own, what lies below a place stays as it was. -/
import Derived.Test.YtfkjojagdgbhdaaRows
import Derived.Test.YtfkjojagdgbhdaaPPut
import Derived.WalkKit
import Derived.WalkSpells
import Derived.WalkLawsBesides
import Derived.Lib.Hide
namespace Go.Proofs.Ytfkjojagdgbhdaa
open Go.RowKit

theorem inf_u8 : (Try.prog.info? 5).map (fun i => (i.zero, i.size, i.bytes)) = some (some (.int .u8 0), 1, 1) := by kernel_rfl

/-- one piece of one cell appended to a slice of the call's own: the piece lies in a new block of its own -/
theorem wp_app1 {P : Program} {W w0 : World} {ops : Array Oper} {rest : List Oper} {o : Oper} {a : Act} {Q : Exit → Act → World → Prop} (hgd : o.guard = none) (s x : Operand) (t : TypeId)
    (ho : o.op = .call { callee := .builtin .append, args := #[s, x], argTypes := #[t, t] })
    (base : Nat) (e : TypeId) {z : Value} {bytes : Nat} (ht : P.underlying t = some (.slice e)) (hinf : (P.info? e).map (fun i => (i.zero, i.size, i.bytes)) = some (some z, 1, bytes)) (hz : z.cells.size = 1)
    {v : Value} {n : Nat} {xs : List Value} (hs : a.eval s = v) (hown : W.ownsRow base e 1 v n xs)
    {u : Value} (hx : a.eval x = .slice (some ⟨W.heap.size, 0, none⟩) 1 1) (hu : u.oneCell' = true)
    (h63 : n + 1 ≤ maxLen) (hbytes : (n + 1) * bytes ≤ 140737488355328) (hbel : Below base w0 W) (hbase : base ≤ W.heap.size)
    (h : ∀ v' w', w'.ownsRow base e 1 v' (n + 1) (xs ++ [u]) → Below base w0 w' → base ≤ w'.heap.size → W.grownBy w' v.ownBlock → wpList P ops Q rest (a.put o.dst v') w') :
    wpList P ops Q (o :: rest) a (W.alloc (.cells #[u] e)) := by
  obtain ⟨i0, hi, hz0, hz1, hz2⟩ := info_parts hinf
  refine wpList_append_own _ hgd s x t ho base e i0 z 1 bytes ht hi hz0 hz1 hz2 hz (by decide) v n xs hs (hown.alloc _) ⟨W.heap.size, 0, none⟩ 1 1 [u] hx rfl ?_ ?_ h63 hbytes (by simp; omega) ?_
  · intro j u' hj
    match j, hj with
    | 0, hj => simp at hj; subst hj; simp [Addr.add]
  · intro u' hu'; simp at hu'; subst hu'; exact hu
  · intro v' w' h1 h2 _
    have hg : W.grownBy w' v.ownBlock := by
      have hA := World.grownBy_alloc W (.cells #[u] e) v.ownBlock
      exact ⟨h2.os.trans hA.os, h2.tape.trans hA.tape, h2.output.trans hA.output, Nat.le_trans hA.size h2.size, fun k hk hr => (h2.block k (Nat.lt_of_lt_of_le hk hA.size) hr).trans (hA.block k hk hr)⟩
    refine h v' w' h1 (hbel.grown hg hbase (fun k hk => (hown.lt k hk).1)) (Nat.le_trans hbase hg.size) hg

/-- what the walk is told of a slice of integers that came in (as the kit's skeleton has it): it is nil; or it leads to a row of 'cap' cells -/
def IsRow (k : IntKind) (w : World) (a : Option Addr) (len cap : Nat) (zs : List Int) : Prop :=
  (a = none ∧ len = 0 ∧ cap = 0 ∧ zs = []) ∨
  ∃ x, a = some x ∧ len ≤ cap ∧ cap ≤ maxLen ∧ zs.length = cap ∧ (∀ i, i < zs.length → w.cell? (x.add i) = some (.int k (zs.getD i 0))) ∧ ∀ n ∈ zs, (Lit.int k n).wf = true

theorem add_none (b off j : Nat) : (⟨b, off, none⟩ : Addr).add j = ⟨b, off + j, none⟩ := by unfold Addr.add; split <;> simp_all

theorem own_slice {w : World} {base : Nat} {e : TypeId} {size : Nat} {v : Value} {n : Nat} {xs : List Value} (h : w.ownsRow base e size v n xs) : ∃ p c, v = .slice p n c := by
  rcases h.2 with ⟨rfl, rfl⟩ | ⟨g, cap, cur, rfl, _⟩
  · exact ⟨_, _, rfl⟩
  · exact ⟨_, _, rfl⟩

/-- a slice that may be read: n pieces of 'size' cells each, which hold xs -/
def Sl (w : World) (size : Nat) (v : Value) (n : Nat) (xs : List Value) : Prop :=
  ∃ p cap, v = .slice p n cap ∧ n ≤ cap ∧ cap ≤ maxLen ∧ xs.length = n * size ∧ (p = none → cap = 0) ∧
    (xs = [] ∨ ∃ b off, p = some ⟨b, off, none⟩ ∧ ∀ j u, xs[j]? = some u → w.cell? ⟨b, off + j, none⟩ = some u)
/-- bytes that may be read -/
def IsB (w : World) (v : Value) (l : List Nat) : Prop := Sl w 1 v l.length (bys l) ∧ AllB l
/-- integers as cells -/
def its (l : List Int) : List Value := l.map fun x => Value.int .i64 x
/-- integers that may be read -/
def IsI (w : World) (v : Value) (l : List Int) : Prop := Sl w 1 v l.length (its l) ∧ ∀ x ∈ l, -9223372036854775808 ≤ x ∧ x ≤ 9223372036854775807

theorem Sl.below {w w' : World} {size : Nat} {v : Value} {n : Nat} {xs : List Value} (h : Sl w size v n xs) {B : Nat} (hb : Below B w w') (hB : ∀ b off c l, v = .slice (some ⟨b, off, none⟩) l c → b < B) : Sl w' size v n xs := by
  obtain ⟨p, cap, rfl, h1, h2, h3, h4, h5⟩ := h
  refine ⟨p, cap, rfl, h1, h2, h3, h4, ?_⟩
  rcases h5 with h5 | ⟨b, off, rfl, h5⟩
  · exact .inl h5
  · exact .inr ⟨b, off, rfl, fun j u hj => by rw [hb.cell (p := ⟨b, off + j, none⟩) (hB b off _ _ rfl)]; exact h5 j u hj⟩
theorem Sl.later {w w' : World} {size : Nat} {v : Value} {n : Nat} {xs : List Value} (h : Sl w size v n xs) (hb : Below w.heap.size w w') : Sl w' size v n xs := by
  obtain ⟨p, cap, rfl, h1, h2, h3, h4, h5⟩ := h
  refine ⟨p, cap, rfl, h1, h2, h3, h4, ?_⟩
  rcases h5 with h5 | ⟨b, off, rfl, h5⟩
  · exact .inl h5
  · exact .inr ⟨b, off, rfl, fun j u hj => by rw [hb.cell (p := ⟨b, off + j, none⟩) (World.block_lt_of_cell? w _ (h5 j u hj))]; exact h5 j u hj⟩
theorem IsB.later {w w' : World} {v : Value} {l : List Nat} (h : IsB w v l) (hb : Below w.heap.size w w') : IsB w' v l := ⟨h.1.later hb, h.2⟩
theorem IsI.later {w w' : World} {v : Value} {l : List Int} (h : IsI w v l) (hb : Below w.heap.size w w') : IsI w' v l := ⟨h.1.later hb, h.2⟩

theorem Sl.get {w : World} {size : Nat} {p : Option Addr} {cap n : Nat} {xs : List Value} (h : Sl w size (.slice p n cap) n xs) {j : Nat} {u : Value} (hj : xs[j]? = some u) : ∃ b off, p = some ⟨b, off, none⟩ ∧ w.cell? ⟨b, off + j, none⟩ = some u := by
  obtain ⟨p', cap', hp, h1, h2, h3, h4, h5⟩ := h
  cases hp
  rcases h5 with rfl | ⟨b, off, rfl, h5⟩
  · simp at hj
  · exact ⟨b, off, rfl, h5 j u hj⟩

theorem Sl.of_own {w : World} {base : Nat} {e : TypeId} {size : Nat} {v : Value} {n : Nat} {xs : List Value} (h : w.ownsRow base e size v n xs) : Sl w size v n xs := by
  have hc := fun g => h.cells (g := g)
  obtain ⟨hl, h⟩ := h
  rcases h with ⟨rfl, rfl⟩ | ⟨g, cap, cur, rfl, h1, h2, h3, h4, h5, h6⟩
  · exact ⟨none, 0, rfl, Nat.le_refl _, by decide, hl, fun _ => rfl, .inl (List.eq_nil_of_length_eq_zero (by simpa using hl))⟩
  · refine ⟨_, cap, rfl, h3, h4, hl, (fun h => by cases h), .inr ⟨g, 0, rfl, fun j u hj => ?_⟩⟩
    have := hc g rfl j u hj
    rw [add_none] at this
    exact this
theorem IsB.of_own {w : World} {base : Nat} {e : TypeId} {v : Value} {l : List Nat} {n : Nat} (h : w.ownsRow base e 1 v n (bys l)) (hl : AllB l) : IsB w v l := by
  have hn : n = l.length := by have := h.1; simpa [bys] using this.symm
  subst hn
  exact ⟨Sl.of_own h, hl⟩
theorem IsI.of_own {w : World} {base : Nat} {e : TypeId} {v : Value} {l : List Int} {n : Nat} (h : w.ownsRow base e 1 v n (its l)) (hl : ∀ x ∈ l, -9223372036854775808 ≤ x ∧ x ≤ 9223372036854775807) : IsI w v l := by
  have hn : n = l.length := by have := h.1; simpa [its] using this.symm
  subst hn
  exact ⟨Sl.of_own h, hl⟩

theorem isRow_sl {k : IntKind} {w : World} {a : Option Addr} {len cap : Nat} {zs : List Int} (h : IsRow k w a len cap zs) :
    Sl w 1 (.slice a len cap) len ((zs.take len).map (Value.int k)) ∧ (zs.take len).length = len ∧ ∀ n ∈ zs.take len, (Lit.int k n).wf = true := by
  rcases h with ⟨rfl, rfl, rfl, rfl⟩ | ⟨x, rfl, hl, hm, hz, hcell, hwz⟩
  · exact ⟨⟨none, 0, rfl, Nat.le_refl _, by decide, by simp, fun _ => rfl, .inl rfl⟩, rfl, by simp⟩
  · have hlen : (zs.take len).length = len := by rw [List.length_take]; omega
    refine ⟨⟨_, cap, rfl, hl, hm, by rw [List.length_map, hlen]; omega, (fun h => by cases h), ?_⟩, hlen, fun n hn => hwz n (List.mem_of_mem_take hn)⟩
    by_cases h0 : len = 0
    · left; subst h0; simp
    · right
      have hc := hcell 0 (by omega)
      obtain ⟨b, off, spot⟩ := x
      have hspot : spot = none := by simpa [Addr.add] using World.cell?_spot hc
      subst hspot
      refine ⟨b, off, rfl, fun j u hj => ?_⟩
      have hj' : j < len := by
        have := (List.getElem?_eq_some_iff.1 hj).1
        rw [List.length_map, hlen] at this
        exact this
      have h2 := hcell j (by omega)
      have h3 : ((zs.take len).map (Value.int k))[j]? = some (.int k (zs.getD j 0)) := by
        rw [List.getElem?_map, List.getElem?_take_of_lt hj', List.getD_eq_getElem?_getD, List.getElem?_eq_getElem (by omega)]; rfl
      rw [h3] at hj
      cases hj
      rw [add_none] at h2
      exact h2
theorem isB_of {w : World} {a : Option Addr} {len cap : Nat} {zs : List Int} (h : IsRow .u8 w a len cap zs) : ∃ l, IsB w (.slice a len cap) l := by
  obtain ⟨h1, h2, h3⟩ := isRow_sl h
  have hb : ∀ n ∈ zs.take len, 0 ≤ n ∧ n ≤ 255 := fun n hn => by simpa [Lit.wf, IntKind.min, IntKind.max, IntKind.signed, IntKind.bits] using h3 n hn
  have e : (zs.take len).map (Value.int .u8) = bys ((zs.take len).map Int.toNat) := by
    rw [bys, List.map_map]
    refine List.map_congr_left fun n hn => ?_
    have := hb n hn
    show Value.int .u8 n = Value.int .u8 ((n.toNat : Nat) : Int)
    rw [Int.toNat_of_nonneg this.1]
  refine ⟨(zs.take len).map Int.toNat, ?_, ?_⟩
  · rw [← e, List.length_map, h2]; exact h1
  · intro x hx
    obtain ⟨n, hn, rfl⟩ := List.mem_map.1 hx
    have := hb n hn
    omega
theorem isI_of {w : World} {a : Option Addr} {len cap : Nat} {zs : List Int} (h : IsRow .i64 w a len cap zs) : ∃ l, IsI w (.slice a len cap) l := by
  obtain ⟨h1, h2, h3⟩ := isRow_sl h
  exact ⟨zs.take len, by rw [h2]; exact h1, fun n hn => by simpa [Lit.wf, IntKind.min, IntKind.max, IntKind.signed, IntKind.bits] using h3 n hn⟩
end Go.Proofs.Ytfkjojagdgbhdaa
