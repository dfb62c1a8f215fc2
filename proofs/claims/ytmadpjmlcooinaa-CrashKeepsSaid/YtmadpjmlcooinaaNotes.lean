/- Notes as they come in. -/
import Derived.Test.YtmadpjmlcooinaaBoxed
import Derived.Test.YtmadpjmlcooinaaRead
namespace Go.Proofs.Ytmadpjmlcooinaa
open Go.RowKit Go.ChangeShapes Go.WideShapes Go.Deep
abbrev Nt := Int × Int × Int × List Nat
def InJ (x : Int) : Prop := -9223372036854775808 ≤ x ∧ x ≤ 9223372036854775807
def ntC (x : Value × Nt) : List Value := [.int .i64 x.2.1, .int .i64 x.2.2.1, .int .i64 x.2.2.2.1, x.1]
/-- notes that may be read -/
def IsNt (w : World) (v : Value) (L : List Nt) : Prop :=
  ∃ vs : List (Value × Nt), vs.map (·.2) = L ∧ Sl w 4 v L.length (vs.flatMap ntC) ∧ ∀ x ∈ vs, IsB w x.1 x.2.2.2.2 ∧ InJ x.2.1 ∧ InJ x.2.2.1 ∧ InJ x.2.2.2.1
theorem IsNt.later {w w' : World} {v : Value} {L : List Nt} (h : IsNt w v L) (hb : Below w.heap.size w w') : IsNt w' v L := by
  obtain ⟨vs, h1, h2, h3⟩ := h
  exact ⟨vs, h1, h2.later hb, fun x hx => ⟨(h3 x hx).1.later hb, (h3 x hx).2⟩⟩
theorem IsNt.val {w : World} {v : Value} {L : List Nt} (h : IsNt w v L) : ∃ p c, v = .slice p L.length c ∧ L.length ≤ c ∧ c ≤ 9223372036854775807 := by
  obtain ⟨vs, _, ⟨p, c, rfl, h1, h2, _⟩, _⟩ := h
  exact ⟨p, c, rfl, h1, by unfold maxLen at h2; omega⟩
theorem nt_at {vs : List (Value × Nt)} {i : Nat} (h : i < vs.length) : ((vs.flatMap ntC)[i * 4]? = some (.int .i64 vs[i].2.1)) ∧ ((vs.flatMap ntC)[i * 4 + 1]? = some (.int .i64 vs[i].2.2.1)) ∧ ((vs.flatMap ntC)[i * 4 + 1 + 1]? = some (.int .i64 vs[i].2.2.2.1)) ∧ ((vs.flatMap ntC)[i * 4 + 1 + 1 + 1]? = some vs[i].1) := by
  induction vs generalizing i with
  | nil => simp at h
  | cons a l ih =>
    cases i with
    | zero => exact ⟨rfl, rfl, rfl, rfl⟩
    | succ i =>
      have := ih (i := i) (by simpa using h)
      rw [show (i + 1) * 4 = i * 4 + 1 + 1 + 1 + 1 from by omega]
      exact this
/-- a note: its cells -/
theorem IsNt.get {w : World} {p : Option Addr} {c n : Nat} {L : List Nt} (h : IsNt w (.slice p n c) L) {i : Nat} (hi : i < L.length) :
    ∃ b off q d, p = some ⟨b, off, none⟩ ∧ w.cell? ⟨b, off + i * 4, none⟩ = some (.int .i64 L[i].1) ∧ w.cell? ⟨b, off + i * 4 + 1, none⟩ = some (.int .i64 L[i].2.1) ∧ w.cell? ⟨b, off + i * 4 + 1 + 1, none⟩ = some (.int .i64 L[i].2.2.1) ∧ w.cell? ⟨b, off + i * 4 + 1 + 1 + 1, none⟩ = some (.slice q L[i].2.2.2.length d) ∧ IsB w (.slice q L[i].2.2.2.length d) L[i].2.2.2 ∧ InJ L[i].1 ∧ InJ L[i].2.1 ∧ InJ L[i].2.2.1 := by
  obtain ⟨vs, rfl, h2, h3⟩ := h
  have hil : i < vs.length := by simpa using hi
  have hn : n = (vs.map (·.2)).length := by obtain ⟨p', c', he, _⟩ := h2; cases he; rfl
  subst hn
  obtain ⟨t0, t1, t2, t3⟩ := nt_at hil
  obtain ⟨b, off, rfl, c0⟩ := h2.get t0
  obtain ⟨b', off', he, c1⟩ := h2.get t1
  cases he
  obtain ⟨b', off', he, c2⟩ := h2.get t2
  cases he
  obtain ⟨b', off', he, c3⟩ := h2.get t3
  cases he
  have hm := h3 _ (List.getElem_mem hil)
  rw [List.getElem_map]
  have hi' := hm.1
  obtain ⟨⟨q, d, hq, _⟩, _⟩ := hi'
  rw [hq] at c3
  refine ⟨b, off, q, d, rfl, c0, c1, c2, c3, ?_, hm.2⟩
  rw [← hq]; exact hm.1
theorem isB_trod {H : Type} {enc : TypeId × Value → H} {P : Program} {w : World} {base : Nat} {held : Bool} {t e : TypeId} {fuel : Nat} {u : Value} {x : DataW H × List MemPlace}
    (ht : P.underlying t = some (.slice e)) (he : P.underlying e = some (.int .u8)) (hc : P.cellsOf e = 1) (h : DataW.trod enc P w base (fun _ => true) held fuel t [u] = some x) : ∃ l, IsB w u l := by
  rcases open_ints ht he hc h with ⟨hcs, _⟩ | ⟨a, len, cap, zs, hcs, _, hl, hm, hz, _, hcell, hwz⟩
  · cases hcs
    exact isB_of (zs := []) (.inl ⟨rfl, rfl, rfl, rfl⟩)
  · cases hcs
    exact isB_of (.inr ⟨_, rfl, hl, hm, by simpa using hz, hcell, hwz⟩)
theorem isNt_of {H : Type} {enc : TypeId × Value → H} {P : Program} {w : World} {base : Nat} {held : Bool} {t e ti : TypeId} {fs : Array Field} {f0 f1 f2 f3 : Field} {a : Option Addr} {len cap : Nat} {d : DataW H} {pl : List MemPlace}
    (ht : P.underlying t = some (.slice e)) (he : P.underlying e = some (.struct fs)) (hfs : fs = #[f0, f1, f2, f3]) (hone : oneCellFields P fs = true) (hC : P.cellsOf e = fs.size)
    (h0 : P.underlying f0.type = some (.int .i64)) (h1 : P.underlying f1.type = some (.int .i64)) (h2 : P.underlying f2.type = some (.int .i64)) (h3 : P.underlying f3.type = some (.slice ti)) (hti : P.underlying ti = some (.int .u8)) (hci : P.cellsOf ti = 1)
    (h : DataW.Trod enc P w base (fun _ => true) held t (.slice a len cap) d pl) : ∃ L, IsNt w (.slice a len cap) L := by
  subst hfs
  obtain ⟨fuel, hf⟩ := h
  obtain ⟨n, V, hVl, hsl, hfl⟩ := open_rec ht he hone hC (show 0 < 4 from by omega) (show DataW.trod enc P w base (fun _ => true) held fuel t [.slice a len cap] = some (d, pl) from by simpa [Value.cells] using hf)
  have hn : len = n := by obtain ⟨p', c', hp, _⟩ := hsl; cases hp; rfl
  subst hn
  have hrow : ∀ i, i < len → ∃ x : Value × Nt, V i = ntC x ∧ IsB w x.1 x.2.2.2.2 ∧ InJ x.2.1 ∧ InJ x.2.2.1 ∧ InJ x.2.2.2.1 := by
    intro i hi
    obtain ⟨u0, m0, y0, g0, k0⟩ := hfl i hi 0 f0 rfl
    obtain ⟨u1, m1, y1, g1, k1⟩ := hfl i hi 1 f1 rfl
    obtain ⟨u2, m2, y2, g2, k2⟩ := hfl i hi 2 f2 rfl
    obtain ⟨u3, m3, y3, g3, k3⟩ := hfl i hi 3 f3 rfl
    obtain ⟨l, hl⟩ := isB_trod h3 hti hci k3
    obtain ⟨x0, e0, _, r0⟩ := DataW.trod_int h0 k0
    obtain ⟨x1, e1, _, r1⟩ := DataW.trod_int h1 k1
    obtain ⟨x2, e2, _, r2⟩ := DataW.trod_int h2 k2
    cases e0; cases e1; cases e2
    have hlen := hVl i hi
    refine ⟨(u3, x0, x1, x2, l), ?_, hl, by simpa [InJ, Lit.wf, IntKind.min, IntKind.max, IntKind.signed, IntKind.bits] using r0, by simpa [InJ, Lit.wf, IntKind.min, IntKind.max, IntKind.signed, IntKind.bits] using r1, by simpa [InJ, Lit.wf, IntKind.min, IntKind.max, IntKind.signed, IntKind.bits] using r2⟩
    apply List.ext_getElem?
    intro j
    match j with
    | 0 => exact g0
    | 1 => exact g1
    | 2 => exact g2
    | 3 => exact g3
    | j + 4 => rw [List.getElem?_eq_none (by rw [hlen]; show 4 ≤ _; omega), List.getElem?_eq_none (by simp [ntC])]
  obtain ⟨R, hR⟩ := choose_lt hrow
  refine ⟨((List.range len).map R).map (·.2), (List.range len).map R, rfl, ?_, ?_⟩
  · have e : ((List.range len).map R).flatMap ntC = (List.range len).flatMap V := by
      rw [List.flatMap_map]
      exact flatMap_congr_range (fun i hi => (hR i hi).1.symm)
    rw [e]
    simpa using hsl
  · intro x hx
    obtain ⟨i, hi, rfl⟩ := List.mem_map.1 hx
    exact (hR i (List.mem_range.1 hi)).2
end Go.Proofs.Ytmadpjmlcooinaa
