/- Rows of bytes: as they come in, and of the call's own. -/
import Derived.Test.YtnkkhfggfhbibaaRead
import Derived.Test.YtnkkhfggfhbibaaGLaw
import Derived.Test.YtnkkhfggfhbibaaSome
namespace Go.Proofs.Ytnkkhfggfhbibaa
open Go.RowKit Go.ChangeShapes Go.WideShapes Go.Deep
/-- rows of bytes that may be read -/
def IsBB (w : World) (v : Value) (R : List (List Nat)) : Prop :=
  ∃ vs : List Value, vs.length = R.length ∧ Sl w 1 v R.length vs ∧ ∀ (i : Nat) (r : List Nat), R[i]? = some r → ∃ u, vs[i]? = some u ∧ IsB w u r
theorem IsBB.later {w w' : World} {v : Value} {R : List (List Nat)} (h : IsBB w v R) (hb : Below w.heap.size w w') : IsBB w' v R := by
  obtain ⟨vs, h1, h2, h3⟩ := h
  exact ⟨vs, h1, h2.later hb, fun i r hr => by obtain ⟨u, h4, h5⟩ := h3 i r hr; exact ⟨u, h4, h5.later hb⟩⟩
theorem IsBB.val {w : World} {v : Value} {R : List (List Nat)} (h : IsBB w v R) : ∃ p c, v = .slice p R.length c ∧ R.length ≤ c ∧ c ≤ 9223372036854775807 := by
  obtain ⟨vs, _, ⟨p, c, rfl, h1, h2, _⟩, _⟩ := h
  exact ⟨p, c, rfl, h1, by unfold maxLen at h2; omega⟩
/-- a row of rows -/
theorem IsBB.get {w : World} {p : Option Addr} {c n : Nat} {R : List (List Nat)} (h : IsBB w (.slice p n c) R) {i : Nat} (hi : i < R.length) : ∃ b off q d, p = some ⟨b, off, none⟩ ∧ w.cell? ⟨b, off + i, none⟩ = some (.slice q R[i].length d) ∧ IsB w (.slice q R[i].length d) R[i] := by
  obtain ⟨vs, h1, h2, h3⟩ := h
  obtain ⟨u, h4, h5⟩ := h3 i _ (List.getElem?_eq_getElem hi)
  have hn : n = R.length := by obtain ⟨p', c', he, _⟩ := h2; cases he; rfl
  subst hn
  obtain ⟨b, off, rfl, h6⟩ := h2.get h4
  have h5' := h5
  obtain ⟨⟨q, d, rfl, _⟩, _⟩ := h5'
  exact ⟨b, off, q, d, rfl, h6, h5⟩
theorem isB_trod {H : Type} {enc : TypeId × Value → H} {P : Program} {w : World} {base : Nat} {held : Bool} {t e : TypeId} {fuel : Nat} {u : Value} {x : DataW H × List MemPlace}
    (ht : P.underlying t = some (.slice e)) (he : P.underlying e = some (.int .u8)) (hc : P.cellsOf e = 1) (h : DataW.trod enc P w base (fun _ => true) held fuel t [u] = some x) : ∃ l, IsB w u l := by
  rcases open_ints ht he hc h with ⟨hcs, _⟩ | ⟨a, len, cap, zs, hcs, _, hl, hm, hz, _, hcell, hwz⟩
  · cases hcs
    exact isB_of (zs := []) (.inl ⟨rfl, rfl, rfl, rfl⟩)
  · cases hcs
    exact isB_of (.inr ⟨_, rfl, hl, hm, by simpa using hz, hcell, hwz⟩)
theorem isBB_of {H : Type} {enc : TypeId × Value → H} {P : Program} {w : World} {base : Nat} {held : Bool} {t e q : TypeId} {a : Option Addr} {len cap : Nat} {d : DataW H} {pl : List MemPlace}
    (ht : P.underlying t = some (.slice e)) (he : P.underlying e = some (.slice q)) (hq : P.underlying q = some (.int .u8)) (ce : P.cellsOf e = 1) (cq : P.cellsOf q = 1)
    (h : DataW.Trod enc P w base (fun _ => true) held t (.slice a len cap) d pl) : ∃ R, IsBB w (.slice a len cap) R := by
  obtain ⟨fuel, hf⟩ := h
  have hf' : DataW.trod enc P w base (fun _ => true) held fuel t [.slice a len cap] = some (d, pl) := by simpa [Value.cells] using hf
  rcases open_slice1 ht ce hf' with ⟨hcs, _⟩ | ⟨ad, len', cap', m, n, V, D, Pl, hcs, _, hl, hm, hmm, _, hi⟩
  · cases hcs
    exact ⟨[], [], rfl, ⟨none, 0, rfl, Nat.le_refl _, by decide, rfl, fun _ => rfl, .inl rfl⟩, fun i r hr => by simp at hr⟩
  · cases hcs
    have hlm : len ≤ m := by rw [hmm]; simpa using hl
    have hrow : ∀ i, i < len → ∃ r : List Nat, IsB w (V i) r := fun i hi' => isB_trod he hq cq (hi i (by omega)).2
    obtain ⟨R, hR⟩ := choose_lt hrow
    refine ⟨(List.range len).map R, (List.range len).map V, by simp, ⟨some ad, cap, by simp, by simpa using hl, hm, by simp, (fun h => by cases h), ?_⟩, fun i r hr => ?_⟩
    · by_cases h0 : len = 0
      · subst h0; exact .inl (by simp)
      · right
        have hc0 := (hi 0 (by omega)).1
        obtain ⟨b, off, spot⟩ := ad
        have hspot : spot = none := by simpa [Addr.add] using World.cell?_spot hc0
        subst hspot
        refine ⟨b, off, rfl, fun j u hj => ?_⟩
        have hjl : j < len := by simpa using (List.getElem?_eq_some_iff.1 hj).1
        rw [List.getElem?_map, List.getElem?_range hjl] at hj
        cases hj
        have := (hi j (by omega)).1
        rw [add_none] at this
        exact this
    · have hil : i < len := by simpa using (List.getElem?_eq_some_iff.1 hr).1
      rw [List.getElem?_map, List.getElem?_range hil] at hr
      cases hr
      exact ⟨V i, by rw [List.getElem?_map, List.getElem?_range hil]; rfl, hR i hil⟩
theorem inf_bs : (Try.prog.info? 40).map (fun i => (i.zero, i.size, i.bytes)) = some (some (.slice none 0 0), 1, 24) := by kernel_rfl
/-- rows of bytes of the call's own -/
structure OwnBB (w : World) (B : Nat) (v : Value) (n : Nat) (R : List (List Nat)) (vs : List Value) : Prop where
  outer : w.ownsRow B 40 1 v n vs
  len : R.length = n
  bytes : ∀ r ∈ R, AllB r
  inner : ∀ (i : Nat) (r : List Nat) (u : Value), R[i]? = some r → vs[i]? = some u → w.ownsRow B 5 1 u r.length (bys r)
  apart : ∀ (i : Nat) (u : Value) (k : Nat), vs[i]? = some u → u.ownBlock = some k → v.ownBlock ≠ some k
theorem OwnBB.nil (w : World) (B : Nat) : OwnBB w B (.slice none 0 0) 0 [] [] :=
  ⟨World.ownsRow_nil _ _ _ _, rfl, fun r h => by simp at h, fun i r u h => by simp at h, fun i u k h => by simp at h⟩
theorem OwnBB.later {w w' : World} {B : Nat} {v : Value} {n : Nat} {R : List (List Nat)} {vs : List Value} (h : OwnBB w B v n R vs) (hb : Below w.heap.size w w') : OwnBB w' B v n R vs :=
  ⟨own_later h.outer hb, h.len, h.bytes, fun i r u h1 h2 => own_later (h.inner i r u h1 h2) hb, h.apart⟩
/-- one more row -/
theorem OwnBB.push {w w3 : World} {B n : Nat} {v v' u : Value} {R : List (List Nat)} {vs : List Value} {r : List Nat} (h : OwnBB w B v n R vs) (hg : w.grownBy w3 v.ownBlock) (hr : AllB r)
    (hu : w.ownsRow B 5 1 u r.length (bys r)) (hfar : ∀ k, u.ownBlock = some k → v.ownBlock ≠ some k) (hown : w3.ownsRow B 40 1 v' (n + 1) (vs ++ [u])) (hb : v'.ownBlock = v.ownBlock ∨ ∃ k, w.heap.size ≤ k ∧ v'.ownBlock = some k) :
    OwnBB w3 B v' (n + 1) (R ++ [r]) (vs ++ [u]) := by
  have hvl : vs.length = n := by have := h.outer.1; omega
  have hnew : ∀ (z : Value) (k : Nat), z.ownBlock = some k → k < w.heap.size → v.ownBlock ≠ some k → v'.ownBlock ≠ some k := fun z k hz hk hne e => by
    rcases hb with hb | ⟨k', h1, h2⟩
    · exact hne (hb.symm.trans e)
    · rw [h2] at e; cases e; omega
  refine ⟨hown, by rw [List.length_append, h.len]; rfl, fun x hx => ?_, fun i q z hq hz => ?_, fun i z k hz hk => ?_⟩
  · rcases List.mem_append.1 hx with hx | hx
    · exact h.bytes x hx
    · rw [List.mem_singleton.1 hx]; exact hr
  · by_cases hi : i < n
    · rw [List.getElem?_append_left (by rw [h.len]; exact hi)] at hq
      rw [List.getElem?_append_left (by rw [hvl]; exact hi)] at hz
      exact own_grown (h.inner i q z hq hz) hg (fun k hk => h.apart i z k hz hk)
    · rw [List.getElem?_append_right (by rw [h.len]; omega), h.len] at hq
      rw [List.getElem?_append_right (by rw [hvl]; omega), hvl] at hz
      have hin : i - n = 0 := by
        have := (List.getElem?_eq_some_iff.1 hz).1
        simpa using this
      rw [hin] at hq hz
      cases hq; cases hz
      exact own_grown hu hg hfar
  · by_cases hi : i < n
    · rw [List.getElem?_append_left (by rw [hvl]; exact hi)] at hz
      have hq := List.getElem?_eq_getElem (l := R) (i := i) (by rw [h.len]; exact hi)
      exact hnew z k hk ((h.inner i _ z hq hz).lt k hk).2 (h.apart i z k hz hk)
    · rw [List.getElem?_append_right (by rw [hvl]; omega), hvl] at hz
      have hin : i - n = 0 := by
        have := (List.getElem?_eq_some_iff.1 hz).1
        simpa using this
      rw [hin] at hz
      cases hz
      exact hnew _ k hk (hu.lt k hk).2 (hfar k hk)
theorem OwnBB.isBB {w : World} {B : Nat} {v : Value} {n : Nat} {R : List (List Nat)} {vs : List Value} (h : OwnBB w B v n R vs) : IsBB w v R := by
  have hvl : vs.length = n := by have := h.outer.1; omega
  refine ⟨vs, by rw [hvl, h.len], by rw [h.len]; exact Sl.of_own h.outer, fun i r hr => ?_⟩
  have hi : i < vs.length := by rw [hvl, ← h.len]; exact (List.getElem?_eq_some_iff.1 hr).1
  exact ⟨vs[i], List.getElem?_eq_getElem hi, IsB.of_own (h.inner i r _ hr (List.getElem?_eq_getElem hi)) (h.bytes r (List.mem_of_getElem? hr))⟩
end Go.Proofs.Ytnkkhfggfhbibaa
