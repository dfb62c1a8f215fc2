/- Rows of rows, of whatever elements: those that may be read, and those of the call's own. -/
import Derived.Test.YtcaolnpkpialdaaBoxed
namespace Go.Proofs.Ytcaolnpkpialdaa
open Go.RowKit
section
variable {α : Type} {enc : α → List Value} {t1 t2 : TypeId} {s : Nat}
/-- rows that may be read: each is a slice of pieces of s cells -/
def IsRR (enc : α → List Value) (s : Nat) (len : α → Nat) (w : World) (v : Value) (R : List α) : Prop :=
  ∃ vs : List Value, vs.length = R.length ∧ Sl w 1 v R.length vs ∧ ∀ (i : Nat) (r : α), R[i]? = some r → ∃ u, vs[i]? = some u ∧ Sl w s u (len r) (enc r)
variable {len : α → Nat}
theorem IsRR.later {w w' : World} {v : Value} {R : List α} (h : IsRR enc s len w v R) (hb : Below w.heap.size w w') : IsRR enc s len w' v R := by
  obtain ⟨vs, h1, h2, h3⟩ := h
  exact ⟨vs, h1, h2.later hb, fun i r hr => by obtain ⟨u, h4, h5⟩ := h3 i r hr; exact ⟨u, h4, h5.later hb⟩⟩
theorem IsRR.nil (w : World) : IsRR enc s len w (.slice none 0 0) [] :=
  ⟨[], rfl, ⟨none, 0, rfl, Nat.le_refl _, by decide, rfl, fun _ => rfl, .inl rfl⟩, fun i r h => by simp at h⟩
theorem IsRR.val {w : World} {v : Value} {R : List α} (h : IsRR enc s len w v R) : ∃ p c, v = .slice p R.length c ∧ R.length ≤ c ∧ c ≤ 9223372036854775807 := by
  obtain ⟨vs, _, ⟨p, c, rfl, h1, h2, _⟩, _⟩ := h
  exact ⟨p, c, rfl, h1, by unfold maxLen at h2; omega⟩
theorem IsRR.lens {w : World} {p : Option Addr} {n c : Nat} {R : List α} (h : IsRR enc s len w (.slice p n c) R) : n = R.length ∧ n ≤ c ∧ c ≤ 9223372036854775807 := by
  obtain ⟨p', c', he, h1, h2⟩ := h.val
  cases he
  exact ⟨rfl, h1, h2⟩
/-- a row of rows -/
theorem IsRR.get {w : World} {p : Option Addr} {c n : Nat} {R : List α} (h : IsRR enc s len w (.slice p n c) R) {i : Nat} (hi : i < R.length) : ∃ b off q d, p = some ⟨b, off, none⟩ ∧ w.cell? ⟨b, off + i, none⟩ = some (.slice q (len R[i]) d) ∧ Sl w s (.slice q (len R[i]) d) (len R[i]) (enc R[i]) := by
  obtain ⟨vs, h1, h2, h3⟩ := h
  obtain ⟨u, h4, h5⟩ := h3 i _ (List.getElem?_eq_getElem hi)
  have hn : n = R.length := by obtain ⟨p', c', he, _⟩ := h2; cases he; rfl
  subst hn
  obtain ⟨b, off, rfl, hc⟩ := h2.get h4
  have h5' := h5
  obtain ⟨q, d, rfl, _⟩ := h5'
  exact ⟨b, off, q, d, rfl, hc, h5⟩
/-- rows of the call's own -/
structure OwnRR (enc : α → List Value) (t1 t2 : TypeId) (s : Nat) (len : α → Nat) (w : World) (B : Nat) (v : Value) (n : Nat) (R : List α) (vs : List Value) : Prop where
  outer : w.ownsRow B t1 1 v n vs
  cnt : R.length = n
  inner : ∀ (i : Nat) (r : α) (u : Value), R[i]? = some r → vs[i]? = some u → w.ownsRow B t2 s u (len r) (enc r)
  apart : ∀ (i : Nat) (u : Value) (k : Nat), vs[i]? = some u → u.ownBlock = some k → v.ownBlock ≠ some k
theorem OwnRR.nil (w : World) (B : Nat) : OwnRR enc t1 t2 s len w B (.slice none 0 0) 0 [] [] :=
  ⟨World.ownsRow_nil _ _ _ _, rfl, fun i r u h => by simp at h, fun i u k h => by simp at h⟩
theorem OwnRR.later {w w' : World} {B : Nat} {v : Value} {n : Nat} {R : List α} {vs : List Value} (h : OwnRR enc t1 t2 s len w B v n R vs) (hb : Below w.heap.size w w') : OwnRR enc t1 t2 s len w' B v n R vs :=
  ⟨own_later h.outer hb, h.cnt, fun i r u h1 h2 => own_later (h.inner i r u h1 h2) hb, h.apart⟩
theorem OwnRR.grown {w w' : World} {B : Nat} {v : Value} {n : Nat} {R : List α} {vs : List Value} {o : Option Nat} (h : OwnRR enc t1 t2 s len w B v n R vs) (hg : w.grownBy w' o) (ho : ∀ k, o = some k → k < B) : OwnRR enc t1 t2 s len w' B v n R vs :=
  ⟨own_grown h.outer hg (fun k hk e => by have := ho k e; have := (h.outer.lt k hk).1; omega), h.cnt, fun i r u h1 h2 => own_grown (h.inner i r u h1 h2) hg (fun k hk e => by have := ho k e; have := ((h.inner i r u h1 h2).lt k hk).1; omega), h.apart⟩
theorem OwnRR.mono {w : World} {B B' : Nat} {v : Value} {n : Nat} {R : List α} {vs : List Value} (h : OwnRR enc t1 t2 s len w B v n R vs) (hB : B' ≤ B) : OwnRR enc t1 t2 s len w B' v n R vs :=
  ⟨own_mono h.outer hB, h.cnt, fun i r u h1 h2 => own_mono (h.inner i r u h1 h2) hB, h.apart⟩
theorem OwnRR.vlen {w : World} {B : Nat} {v : Value} {n : Nat} {R : List α} {vs : List Value} (h : OwnRR enc t1 t2 s len w B v n R vs) : vs.length = n := by have := h.outer.1; omega
/-- one more row -/
theorem OwnRR.push {w w3 : World} {B n : Nat} {v v' u : Value} {R : List α} {vs : List Value} {r : α} (h : OwnRR enc t1 t2 s len w B v n R vs) (hg : w.grownBy w3 v.ownBlock)
    (hu : w.ownsRow B t2 s u (len r) (enc r)) (hfar : ∀ k, u.ownBlock = some k → v.ownBlock ≠ some k) (hown : w3.ownsRow B t1 1 v' (n + 1) (vs ++ [u])) (hb : v'.ownBlock = v.ownBlock ∨ ∃ k, w.heap.size ≤ k ∧ v'.ownBlock = some k) :
    OwnRR enc t1 t2 s len w3 B v' (n + 1) (R ++ [r]) (vs ++ [u]) := by
  have hvl : vs.length = n := h.vlen
  have hnew : ∀ (z : Value) (k : Nat), z.ownBlock = some k → k < w.heap.size → v.ownBlock ≠ some k → v'.ownBlock ≠ some k := fun z k hz hk hne e => by
    rcases hb with hb | ⟨k', h1, h2⟩
    · exact hne (hb.symm.trans e)
    · rw [h2] at e; cases e; omega
  refine ⟨hown, by rw [List.length_append, h.cnt]; rfl, fun i q z hq hz => ?_, fun i z k hz hk => ?_⟩
  · by_cases hi : i < n
    · rw [List.getElem?_append_left (by rw [h.cnt]; exact hi)] at hq
      rw [List.getElem?_append_left (by rw [hvl]; exact hi)] at hz
      exact own_grown (h.inner i q z hq hz) hg (fun k hk => h.apart i z k hz hk)
    · rw [List.getElem?_append_right (by rw [h.cnt]; omega), h.cnt] at hq
      rw [List.getElem?_append_right (by rw [hvl]; omega), hvl] at hz
      have hin : i - n = 0 := by
        have := (List.getElem?_eq_some_iff.1 hz).1
        simpa using this
      rw [hin] at hq hz
      cases hq; cases hz
      exact own_grown hu hg hfar
  · by_cases hi : i < n
    · rw [List.getElem?_append_left (by rw [hvl]; exact hi)] at hz
      have hq := List.getElem?_eq_getElem (l := R) (i := i) (by rw [h.cnt]; exact hi)
      exact hnew z k hk ((h.inner i _ z hq hz).lt k hk).2 (h.apart i z k hz hk)
    · rw [List.getElem?_append_right (by rw [hvl]; omega), hvl] at hz
      have hin : i - n = 0 := by
        have := (List.getElem?_eq_some_iff.1 hz).1
        simpa using this
      rw [hin] at hz
      cases hz
      exact hnew _ k hk (hu.lt k hk).2 (hfar k hk)
theorem OwnRR.isRR {w : World} {B : Nat} {v : Value} {n : Nat} {R : List α} {vs : List Value} (h : OwnRR enc t1 t2 s len w B v n R vs) : IsRR enc s len w v R := by
  have hvl : vs.length = n := h.vlen
  refine ⟨vs, by rw [hvl, h.cnt], by rw [h.cnt]; exact Sl.of_own h.outer, fun i r hr => ?_⟩
  have hi : i < vs.length := by rw [hvl, ← h.cnt]; exact (List.getElem?_eq_some_iff.1 hr).1
  exact ⟨vs[i], List.getElem?_eq_getElem hi, Sl.of_own (h.inner i r _ hr (List.getElem?_eq_getElem hi))⟩
end
end Go.Proofs.Ytcaolnpkpialdaa
