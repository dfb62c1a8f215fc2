/- Tallies as they come in. -/
import Derived.Test.YtmadpjmlcooinaaBd
import Derived.Test.YtmadpjmlcooinaaRead
namespace Go.Proofs.Ytmadpjmlcooinaa
open Go.RowKit Go.ChangeShapes Go.WideShapes Go.Deep
abbrev Tl := List Int × Int × Int
def InI (x : Int) : Prop := -9223372036854775808 ≤ x ∧ x ≤ 9223372036854775807
/-- tallies that may be read -/
def IsTl (w : World) (v : Value) (L : List Tl) : Prop :=
  ∃ vs : List (Value × Tl), vs.map (·.2) = L ∧ Sl w 3 v L.length (vs.flatMap fun x => [x.1, .int .i64 x.2.2.1, .int .i64 x.2.2.2]) ∧ ∀ x ∈ vs, IsI w x.1 x.2.1 ∧ InI x.2.2.1 ∧ InI x.2.2.2
theorem IsTl.later {w w' : World} {v : Value} {L : List Tl} (h : IsTl w v L) (hb : Below w.heap.size w w') : IsTl w' v L := by
  obtain ⟨vs, h1, h2, h3⟩ := h
  exact ⟨vs, h1, h2.later hb, fun x hx => ⟨(h3 x hx).1.later hb, (h3 x hx).2⟩⟩
theorem IsTl.val {w : World} {v : Value} {L : List Tl} (h : IsTl w v L) : ∃ p c, v = .slice p L.length c ∧ L.length ≤ c ∧ c ≤ 9223372036854775807 := by
  obtain ⟨vs, _, ⟨p, c, rfl, h1, h2, _⟩, _⟩ := h
  exact ⟨p, c, rfl, h1, by unfold maxLen at h2; omega⟩
theorem tl_at {vs : List (Value × Tl)} {i : Nat} (h : i < vs.length) : ((vs.flatMap fun x => [x.1, Value.int .i64 x.2.2.1, Value.int .i64 x.2.2.2])[i * 3]? = some vs[i].1) ∧ ((vs.flatMap fun x => [x.1, Value.int .i64 x.2.2.1, Value.int .i64 x.2.2.2])[i * 3 + 1]? = some (.int .i64 vs[i].2.2.1)) ∧ ((vs.flatMap fun x => [x.1, Value.int .i64 x.2.2.1, Value.int .i64 x.2.2.2])[i * 3 + 1 + 1]? = some (.int .i64 vs[i].2.2.2)) := by
  induction vs generalizing i with
  | nil => simp at h
  | cons a l ih =>
    cases i with
    | zero => exact ⟨rfl, rfl, rfl⟩
    | succ i =>
      have := ih (i := i) (by simpa using h)
      rw [show (i + 1) * 3 = i * 3 + 1 + 1 + 1 from by omega]
      exact this
/-- a tally: its cells -/
theorem IsTl.get {w : World} {p : Option Addr} {c n : Nat} {L : List Tl} (h : IsTl w (.slice p n c) L) {i : Nat} (hi : i < L.length) :
    ∃ b off q d, p = some ⟨b, off, none⟩ ∧ w.cell? ⟨b, off + i * 3, none⟩ = some (.slice q L[i].1.length d) ∧ w.cell? ⟨b, off + i * 3 + 1, none⟩ = some (.int .i64 L[i].2.1) ∧ w.cell? ⟨b, off + i * 3 + 1 + 1, none⟩ = some (.int .i64 L[i].2.2) ∧ IsI w (.slice q L[i].1.length d) L[i].1 ∧ InI L[i].2.1 ∧ InI L[i].2.2 := by
  obtain ⟨vs, rfl, h2, h3⟩ := h
  have hil : i < vs.length := by simpa using hi
  have hn : n = (vs.map (·.2)).length := by obtain ⟨p', c', he, _⟩ := h2; cases he; rfl
  subst hn
  obtain ⟨t0, t1, t2⟩ := tl_at hil
  obtain ⟨b, off, rfl, c0⟩ := h2.get t0
  obtain ⟨b', off', he, c1⟩ := h2.get t1
  cases he
  obtain ⟨b', off', he, c2⟩ := h2.get t2
  cases he
  have hm := h3 _ (List.getElem_mem hil)
  rw [List.getElem_map]
  have hi' := hm.1
  obtain ⟨⟨q, d, hq, _⟩, _⟩ := hi'
  rw [hq] at c0
  refine ⟨b, off, q, d, rfl, c0, c1, c2, ?_, hm.2⟩
  rw [← hq]; exact hm.1
theorem isI_trod {H : Type} {enc : TypeId × Value → H} {P : Program} {w : World} {base : Nat} {held : Bool} {t e : TypeId} {fuel : Nat} {u : Value} {x : DataW H × List MemPlace}
    (ht : P.underlying t = some (.slice e)) (he : P.underlying e = some (.int .i64)) (hc : P.cellsOf e = 1) (h : DataW.trod enc P w base (fun _ => true) held fuel t [u] = some x) : ∃ l, IsI w u l := by
  rcases open_ints ht he hc h with ⟨hcs, _⟩ | ⟨a, len, cap, zs, hcs, _, hl, hm, hz, _, hcell, hwz⟩
  · cases hcs
    exact isI_of (zs := []) (.inl ⟨rfl, rfl, rfl, rfl⟩)
  · cases hcs
    exact isI_of (.inr ⟨_, rfl, hl, hm, by simpa using hz, hcell, hwz⟩)
theorem isTl_of {H : Type} {enc : TypeId × Value → H} {P : Program} {w : World} {base : Nat} {held : Bool} {t e ti : TypeId} {fs : Array Field} {f0 f1 f2 : Field} {a : Option Addr} {len cap : Nat} {d : DataW H} {pl : List MemPlace}
    (ht : P.underlying t = some (.slice e)) (he : P.underlying e = some (.struct fs)) (hfs : fs = #[f0, f1, f2]) (hone : oneCellFields P fs = true) (hC : P.cellsOf e = fs.size)
    (h0 : P.underlying f0.type = some (.slice ti)) (hti : P.underlying ti = some (.int .i64)) (hci : P.cellsOf ti = 1) (h1 : P.underlying f1.type = some (.int .i64)) (h2 : P.underlying f2.type = some (.int .i64))
    (h : DataW.Trod enc P w base (fun _ => true) held t (.slice a len cap) d pl) : ∃ L, IsTl w (.slice a len cap) L := by
  subst hfs
  obtain ⟨fuel, hf⟩ := h
  obtain ⟨n, V, hVl, hsl, hfl⟩ := open_rec ht he hone hC (show 0 < 3 from by omega) (show DataW.trod enc P w base (fun _ => true) held fuel t [.slice a len cap] = some (d, pl) from by simpa [Value.cells] using hf)
  have hn : len = n := by obtain ⟨p', c', hp, _⟩ := hsl; cases hp; rfl
  subst hn
  have hrow : ∀ i, i < len → ∃ x : Value × Tl, V i = [x.1, .int .i64 x.2.2.1, .int .i64 x.2.2.2] ∧ IsI w x.1 x.2.1 ∧ InI x.2.2.1 ∧ InI x.2.2.2 := by
    intro i hi
    obtain ⟨u0, m0, y0, g0, k0⟩ := hfl i hi 0 f0 rfl
    obtain ⟨u1, m1, y1, g1, k1⟩ := hfl i hi 1 f1 rfl
    obtain ⟨u2, m2, y2, g2, k2⟩ := hfl i hi 2 f2 rfl
    obtain ⟨l, hl⟩ := isI_trod h0 hti hci k0
    obtain ⟨x1, e1, _, r1⟩ := DataW.trod_int h1 k1
    obtain ⟨x2, e2, _, r2⟩ := DataW.trod_int h2 k2
    cases e1; cases e2
    have hlen := hVl i hi
    refine ⟨(u0, l, x1, x2), ?_, hl, by simpa [InI, Lit.wf, IntKind.min, IntKind.max, IntKind.signed, IntKind.bits] using r1, by simpa [InI, Lit.wf, IntKind.min, IntKind.max, IntKind.signed, IntKind.bits] using r2⟩
    apply List.ext_getElem?
    intro j
    match j with
    | 0 => exact g0
    | 1 => exact g1
    | 2 => exact g2
    | j + 3 => rw [List.getElem?_eq_none (by rw [hlen]; show 3 ≤ _; omega), List.getElem?_eq_none (by simp)]
  obtain ⟨R, hR⟩ := choose_lt hrow
  refine ⟨((List.range len).map R).map (·.2), (List.range len).map R, rfl, ?_, ?_⟩
  · have e : ((List.range len).map R).flatMap (fun x => [x.1, Value.int .i64 x.2.2.1, Value.int .i64 x.2.2.2]) = (List.range len).flatMap V := by
      rw [List.flatMap_map]
      exact flatMap_congr_range (fun i hi => (hR i hi).1.symm)
    rw [e]
    simpa using hsl
  · intro x hx
    obtain ⟨i, hi, rfl⟩ := List.mem_map.1 hx
    exact (hR i (List.mem_range.1 hi)).2
end Go.Proofs.Ytmadpjmlcooinaa
