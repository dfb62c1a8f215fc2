/- Arguments opened: a slice of structs whose fields are all of one cell; rows of integers. -/
import Derived.Test.YtmdbcknlipahgaaDoorOwn2
import Derived.Deep.Slices
import Derived.Deep.Fields
import Derived.ChangeSame
import Derived.ProofKit
namespace Go.Proofs.YtmdbcknlipahgaaDoor
open Go.RowKit Go.ChangeShapes Go.WideShapes Go.Deep
theorem flat_len {V : Nat → List Value} {k : Nat} : ∀ n, (∀ i, i < n → (V i).length = k) → ((List.range n).flatMap V).length = n * k := by
  intro n
  induction n with
  | zero => intro _; simp
  | succ n ih =>
    intro h
    rw [List.range_succ, List.flatMap_append, List.length_append, ih (fun i hi => h i (by omega)), Nat.succ_mul]
    simp [h n (by omega)]
theorem flat_get {V : Nat → List Value} {k : Nat} : ∀ n, (∀ i, i < n → (V i).length = k) → ∀ j u, ((List.range n).flatMap V)[j]? = some u → ∃ i r, i < n ∧ r < k ∧ j = i * k + r ∧ (V i)[r]? = some u := by
  intro n
  induction n with
  | zero => intro _ j u h; simp at h
  | succ n ih =>
    intro h j u hj
    have hl := flat_len n (fun i hi => h i (by omega))
    rw [List.range_succ, List.flatMap_append] at hj
    by_cases hjn : j < n * k
    · rw [List.getElem?_append_left (by omega)] at hj
      obtain ⟨i, r, h1, h2, h3, h4⟩ := ih (fun i hi => h i (by omega)) j u hj
      exact ⟨i, r, by omega, h2, h3, h4⟩
    · rw [List.getElem?_append_right (by omega), hl] at hj
      have e : [n].flatMap V = V n := by simp
      rw [e] at hj
      have hlt := (List.getElem?_eq_some_iff.1 hj).1
      rw [h n (by omega)] at hlt
      exact ⟨n, j - n * k, by omega, hlt, by omega, hj⟩
section
variable {H : Type} {enc : TypeId × Value → H} {P : Program} {w : World} {base : Nat} {spare : Nat → Bool} {held : Bool}
/-- a slice of structs of k one-cell fields: its cells, and each field's own reading -/
theorem open_rec {t e : TypeId} {fs : Array Field} {fuel : Nat} {v : Value} {x : DataW H × List MemPlace} (ht : P.underlying t = some (.slice e)) (he : P.underlying e = some (.struct fs))
    (hone : oneCellFields P fs = true) (hC : P.cellsOf e = fs.size) (hk : 0 < fs.size) (h : DataW.trod enc P w base spare held fuel t [v] = some x) :
    ∃ (n : Nat) (V : Nat → List Value), (∀ i, i < n → (V i).length = fs.size) ∧ Sl w fs.size v n ((List.range n).flatMap V) ∧
      ∀ i, i < n → ∀ (j : Nat) (f : Field), fs[j]? = some f → ∃ (u : Value) (m : Nat) (y : DataW H × List MemPlace), (V i)[j]? = some u ∧ DataW.trod enc P w base spare held m f.type [u] = some y := by
  rcases open_slice ht h with ⟨h0, _⟩ | ⟨a, len, cap, m, n, D, Pl, hcs, hb, hl, hm, hmm, hx, hi⟩
  · cases h0
    exact ⟨0, fun _ => [], fun i hi => absurd hi (by omega), ⟨none, 0, rfl, Nat.le_refl _, by decide, by simp, fun _ => rfl, .inl rfl⟩, fun i hi => absurd hi (by omega)⟩
  · cases hcs
    have hlm : len ≤ m := by rw [hmm]; split <;> omega
    have hV : ∀ i, i < len → ∃ cs' : List Value, cs'.length = fs.size ∧ (∀ r, r < fs.size → w.cell? ((a.add (i * fs.size)).add r) = cs'[r]?) ∧ ∀ (j : Nat) (f : Field), fs[j]? = some f → ∃ (u : Value) (mm : Nat) (y : DataW H × List MemPlace), cs'[j]? = some u ∧ DataW.trod enc P w base spare held mm f.type [u] = some y := by
      intro i hil
      obtain ⟨cs', hc, ht'⟩ := hi i (by omega)
      rw [hC] at hc
      obtain ⟨ys, n', hn', hy, hlen, hyl, hf⟩ := DataW.trod_struct he ht'
      obtain ⟨_, hcl, hat⟩ := World.cells?_some hc
      refine ⟨cs', hcl, hat, fun j f hj => ?_⟩
      obtain ⟨ho, hk1⟩ := hone_of hone j f hj
      have hjl : j < fs.size := (Array.getElem?_eq_some_iff.1 hj).1
      have h1 := hf j f hj
      rw [ho, hk1] at h1
      have hone' : (cs'.drop j).take 1 = [cs'[j]'(by omega)] := by
        rw [List.drop_eq_getElem_cons (by omega)]
        rfl
      rw [hone', List.getElem?_eq_getElem (by omega)] at h1
      exact ⟨cs'[j]'(by omega), n', _, List.getElem?_eq_getElem (by omega), h1⟩
    obtain ⟨V, hV⟩ := choose_lt hV
    have hVl : ∀ i, i < len → (V i).length = fs.size := fun i hi => (hV i hi).1
    refine ⟨len, V, hVl, ⟨some a, cap, rfl, hl, hm, flat_len len hVl, (fun h => by cases h), ?_⟩, fun i hi => (hV i hi).2.2⟩
    by_cases h0 : len = 0
    · subst h0; exact .inl (by simp)
    · right
      have hc0 := (hV 0 (by omega)).2.1 0 hk
      rw [List.getElem?_eq_getElem (by rw [hVl 0 (by omega)]; exact hk)] at hc0
      obtain ⟨b, off, spot⟩ := a
      have hspot : spot = none := by simpa [Addr.add] using World.cell?_spot hc0
      subst hspot
      refine ⟨b, off, rfl, fun j u hj => ?_⟩
      obtain ⟨i, r, h1, h2, h3, h4⟩ := flat_get len hVl j u hj
      have h5 := (hV i h1).2.1 r h2
      rw [add_none, add_none, h4] at h5
      rw [h3, ← Nat.add_assoc]
      exact h5
end
/-- rows of k integers -/
def rws (l : List (List Int)) : List Value := l.flatMap its
def IsR (k : Nat) (w : World) (v : Value) (l : List (List Int)) : Prop := Sl w k v l.length (rws l) ∧ ∀ r ∈ l, r.length = k ∧ ∀ x ∈ r, -9223372036854775808 ≤ x ∧ x ≤ 9223372036854775807
theorem IsR.later {k : Nat} {w w' : World} {v : Value} {l : List (List Int)} (h : IsR k w v l) (hb : Below w.heap.size w w') : IsR k w' v l := ⟨h.1.later hb, h.2⟩
theorem IsR.val {k : Nat} {w : World} {v : Value} {l : List (List Int)} (h : IsR k w v l) : ∃ p c, v = .slice p l.length c := by
  obtain ⟨⟨p, c, rfl, _⟩, _⟩ := h
  exact ⟨p, c, rfl⟩
theorem IsR.lens {k : Nat} {w : World} {p : Option Addr} {c n : Nat} {l : List (List Int)} (h : IsR k w (.slice p n c) l) : n = l.length ∧ n ≤ c ∧ c ≤ 9223372036854775807 := by
  obtain ⟨⟨p', c', hp, h1, h2, _⟩, _⟩ := h
  cases hp
  exact ⟨rfl, h1, by unfold maxLen at h2; omega⟩
theorem rws_get : ∀ {l : List (List Int)} {k : Nat}, (∀ r ∈ l, r.length = k) → ∀ {i : Nat} {r : List Int}, l[i]? = some r → ∀ {j : Nat} {x : Int}, r[j]? = some x → (rws l)[i * k + j]? = some (.int .i64 x) := by
  intro l
  induction l with
  | nil => intro k _ i r h; simp at h
  | cons a l ih =>
    intro k hk i r hr j x hx
    have ha := hk a (by simp)
    have hal : (its a).length = k := by simp [its, ha]
    show (its a ++ rws l)[i * k + j]? = _
    cases i with
    | zero =>
      have e : a = r := by simpa using hr
      subst e
      rw [Nat.zero_mul, Nat.zero_add, List.getElem?_append_left (by rw [hal, ← ha]; exact (List.getElem?_eq_some_iff.1 hx).1)]
      unfold its
      rw [List.getElem?_map, hx]; rfl
    | succ i =>
      rw [List.getElem?_append_right (by rw [hal, Nat.succ_mul]; omega), hal]
      have e : (i + 1) * k + j - k = i * k + j := by rw [Nat.succ_mul]; omega
      rw [e]
      exact ih (fun r hr => hk r (by simp [hr])) (by simpa using hr) hx
/-- a field of a row -/
theorem IsR.get {k : Nat} {w : World} {p : Option Addr} {c n : Nat} {l : List (List Int)} (h : IsR k w (.slice p n c) l) {i : Nat} (hi : i < l.length) {j : Nat} {x : Int} (hx : (l[i])[j]? = some x) :
    ∃ b off, p = some ⟨b, off, none⟩ ∧ w.cell? ⟨b, off + (i * k + j), none⟩ = some (.int .i64 x) := by
  obtain ⟨rfl, _⟩ := h.lens
  exact h.1.get (rws_get (fun r hr => (h.2 r hr).1) (List.getElem?_eq_getElem hi) hx)
theorem isR_of {H : Type} {enc : TypeId × Value → H} {P : Program} {w : World} {base : Nat} {spare : Nat → Bool} {held : Bool} {t e : TypeId} {fs : Array Field} {k : Nat} {a : Option Addr} {len cap : Nat} {d : DataW H} {pl : List MemPlace}
    (ht : P.underlying t = some (.slice e)) (he : P.underlying e = some (.struct fs)) (hk : fs.size = k) (hk0 : 0 < k) (hone : oneCellFields P fs = true) (hC : P.cellsOf e = fs.size) (hint : ∀ (j : Nat) (f : Field), fs[j]? = some f → P.underlying f.type = some (.int .i64))
    (h : DataW.Trod enc P w base spare held t (.slice a len cap) d pl) : ∃ l, IsR k w (.slice a len cap) l := by
  subst hk
  obtain ⟨fuel, hf⟩ := h
  obtain ⟨n, V, hVl, hsl, hfl⟩ := open_rec ht he hone hC hk0 (show DataW.trod enc P w base spare held fuel t [.slice a len cap] = some (d, pl) from by simpa [Value.cells] using hf)
  have hrow : ∀ i, i < n → ∃ r : List Int, V i = its r ∧ r.length = fs.size ∧ ∀ x ∈ r, -9223372036854775808 ≤ x ∧ x ≤ 9223372036854775807 := by
    intro i hi
    have hcell : ∀ j, j < fs.size → ∃ x : Int, (V i)[j]? = some (.int .i64 x) ∧ -9223372036854775808 ≤ x ∧ x ≤ 9223372036854775807 := by
      intro j hj
      obtain ⟨u, m, y, h1, h2⟩ := hfl i hi j fs[j] (Array.getElem?_eq_getElem hj)
      obtain ⟨x, h3, _, h5⟩ := DataW.trod_int (hint j _ (Array.getElem?_eq_getElem hj)) h2
      cases h3
      exact ⟨x, h1, by simpa [Lit.wf, IntKind.min, IntKind.max, IntKind.signed, IntKind.bits] using h5⟩
    obtain ⟨X, hX⟩ := choose_lt hcell
    refine ⟨(List.range fs.size).map X, ?_, by simp, ?_⟩
    · apply List.ext_getElem?
      intro j
      by_cases hj : j < fs.size
      · rw [(hX j hj).1]
        unfold its
        rw [List.getElem?_map, List.getElem?_map, List.getElem?_range hj]; rfl
      · rw [List.getElem?_eq_none (by rw [hVl i hi]; omega), List.getElem?_eq_none (by simp [its]; omega)]
    · intro x hx
      obtain ⟨j, hj, rfl⟩ := List.mem_map.1 hx
      exact (hX j (List.mem_range.1 hj)).2
  obtain ⟨R, hR⟩ := choose_lt hrow
  refine ⟨(List.range n).map R, ?_, ?_⟩
  · have e : rws ((List.range n).map R) = (List.range n).flatMap V := by
      unfold rws
      rw [List.flatMap_map]
      exact flatMap_congr_range (fun i hi => (hR i hi).1.symm)
    have hn : len = n := by obtain ⟨p', c', hp, _⟩ := hsl; cases hp; rfl
    subst hn
    rw [e]
    simpa using hsl
  · intro r hr
    obtain ⟨i, hi, rfl⟩ := List.mem_map.1 hr
    exact (hR i (List.mem_range.1 hi)).2
end Go.Proofs.YtmdbcknlipahgaaDoor
