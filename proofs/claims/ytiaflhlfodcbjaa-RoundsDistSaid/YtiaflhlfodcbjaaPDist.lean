/- Distances from a source, the nearest first: plain laws. No program walked. -/
import Derived.Test.YtiaflhlfodcbjaaPGraph
namespace Go.Proofs.Ytiaflhlfodcbjaa
open Go.RowKit Go.Sort Go.Proofs
/-- what is told of a vertex: 0 nothing yet; else its distance and one -/
def fv (far : List Nat) (v : Nat) : Nat := far.getD v 0
theorem fv_set {far : List Nat} {v : Nat} (h : v < far.length) (x y : Nat) : fv (far.set v x) y = if y = v then x else fv far y := by
  unfold fv
  rw [List.getD_eq_getElem?_getD, List.getD_eq_getElem?_getD, List.getElem?_set]
  by_cases e : v = y
  · subst e; simp [h]
  · rw [if_neg e, if_neg (fun h => e h.symm)]
/-- a walk from the source, and its weight and one -/
inductive Dwk (E : List Eg) (s : Nat) : Nat → Nat → Prop
  | here : Dwk E s s 1
  | on {x y w d : Nat} : Dwk E s x d → (x, y, w) ∈ E → Dwk E s y (d + w)
theorem Dwk.rch {E : List Eg} {s v d : Nat} (h : Dwk E s v d) : Rch E s v := by
  induction h with
  | here => exact .here
  | on _ he ih => exact .on ih he
/-- between two steps: what is told, what waits, and what of u's hops is still to be handed on -/
structure Dj (E : List Eg) (s : Nat) (far : List Nat) (Q : List (Nat × Nat)) (u : Nat) (rest : List (Nat × Nat)) : Prop where
  src : fv far s = 1 ∨ (Q = [(s, 0)] ∧ ∀ v, fv far v = 0)
  org : ∀ q ∈ Q, q = (s, 0) ∨ ∃ x w, (x, q.1, w) ∈ E ∧ fv far x ≠ 0 ∧ q.2 + 1 = fv far x + w
  had : ∀ v, fv far v ≠ 0 → v = s ∨ ∃ x w, (x, v, w) ∈ E ∧ fv far x ≠ 0 ∧ fv far v = fv far x + w
  edge : ∀ x y w, (x, y, w) ∈ E → fv far x ≠ 0 → (x = u ∧ (y, w) ∈ rest) ∨ (fv far y ≠ 0 ∧ fv far y ≤ fv far x + w) ∨ (y, fv far x + w - 1) ∈ Q
  mono : ∀ q ∈ Q, ∀ v, fv far v ≤ q.2 + 1
  rch : ∀ v, fv far v ≠ 0 → Dwk E s v (fv far v)
  top : rest ≠ [] → fv far u ≠ 0 ∧ ∀ v, fv far v ≤ fv far u
  hop : ∀ h ∈ rest, (u, h) ∈ E
theorem Dj.start (E : List Eg) (s N : Nat) : Dj E s (List.replicate N 0) [(s, 0)] 0 [] := by
  have h0 : ∀ v, fv (List.replicate N 0) v = 0 := fun v => by
    unfold fv
    rw [List.getD_eq_getElem?_getD, List.getElem?_replicate]
    split <;> rfl
  refine ⟨.inr ⟨rfl, h0⟩, fun q hq => .inl (List.mem_singleton.1 hq), fun v hv => absurd (h0 v) hv, fun x y w _ hx => absurd (h0 x) hx, fun q _ v => by rw [h0]; omega, fun v hv => absurd (h0 v) hv, fun h => absurd rfl h, fun h hh => by cases hh⟩
theorem Dj.perm {E : List Eg} {s u : Nat} {far : List Nat} {Q Q' rest : List (Nat × Nat)} (h : Dj E s far Q u rest) (hp : Q'.Perm Q) : Dj E s far Q' u rest := by
  refine ⟨?_, fun q hq => h.org q (hp.mem_iff.1 hq), h.had, fun x y w he hx => ?_, fun q hq => h.mono q (hp.mem_iff.1 hq), h.rch, h.top, h.hop⟩
  · rcases h.src with h1 | ⟨rfl, h2⟩
    · exact .inl h1
    · exact .inr ⟨List.perm_singleton.1 hp, h2⟩
  · rcases h.edge x y w he hx with h1 | h1 | h1
    · exact .inl h1
    · exact .inr (.inl h1)
    · exact .inr (.inr (hp.mem_iff.2 h1))
/-- the nearest one is known already -/
theorem Dj.skip {E : List Eg} {s u : Nat} {far : List Nat} {Q : List (Nat × Nat)} {a : Nat × Nat} (h : Dj E s far (a :: Q) u []) (ha : fv far a.1 ≠ 0) : Dj E s far Q u [] := by
  refine ⟨?_, fun q hq => h.org q (by simp [hq]), h.had, fun x y w he hx => ?_, fun q hq => h.mono q (by simp [hq]), h.rch, h.top, h.hop⟩
  · rcases h.src with h1 | ⟨-, h2⟩
    · exact .inl h1
    · exact absurd (h2 _) ha
  · rcases h.edge x y w he hx with h1 | h1 | h1
    · exact .inl h1
    · exact .inr (.inl h1)
    · rcases List.mem_cons.1 h1 with h2 | h2
      · refine .inr (.inl ?_)
        have e1 : y = a.1 := by rw [← h2]
        have e2 : fv far x + w - 1 = a.2 := by rw [← h2]
        rw [e1]
        have := h.mono a (by simp) a.1
        exact ⟨ha, by omega⟩
      · exact .inr (.inr h2)
/-- the nearest one is told -/
theorem Dj.tell {E : List Eg} {s u : Nat} {far : List Nat} {Q : List (Nat × Nat)} {a : Nat × Nat} (h : Dj E s far (a :: Q) u []) (ha : fv far a.1 = 0) (hl : a.1 < far.length) (hle : ∀ q ∈ Q, a.2 ≤ q.2) : Dj E s (far.set a.1 (a.2 + 1)) Q a.1 (hopsL E a.1) := by
  have hs := fv_set hl (a.2 + 1)
  have hne : ∀ x, fv far x ≠ 0 → fv (far.set a.1 (a.2 + 1)) x = fv far x := fun x hx => by
    rw [hs]; split
    · rename_i e; rw [e] at hx; exact absurd ha hx
    · rfl
  have hself : fv (far.set a.1 (a.2 + 1)) a.1 = a.2 + 1 := by rw [hs, if_pos rfl]
  have hfar : ∀ v, fv (far.set a.1 (a.2 + 1)) v ≠ 0 → v = a.1 ∨ fv far v ≠ 0 := fun v hv => by
    rw [hs] at hv; split at hv
    · rename_i e; exact .inl e
    · exact .inr hv
  have hmx : ∀ v, fv (far.set a.1 (a.2 + 1)) v ≤ a.2 + 1 := fun v => by
    rw [hs]; split
    · exact Nat.le_refl _
    · exact h.mono a (by simp) v
  refine ⟨?_, fun q hq => ?_, fun v hv => ?_, fun x y w he hx => ?_, fun q hq v => ?_, fun v hv => ?_, fun _ => ?_, fun hh h2 => hop_edge.1 h2⟩
  · left
    rcases h.src with h1 | ⟨h1, h2⟩
    · rw [hne s (by omega)]; exact h1
    · have e : a = (s, 0) := (List.cons.inj h1).1
      rw [e] at hself ⊢
      exact hself
  · rcases h.org q (by simp [hq]) with h1 | ⟨x, w, h1, h2, h3⟩
    · exact .inl h1
    · exact .inr ⟨x, w, h1, by rw [hne x h2]; exact h2, by rw [hne x h2]; exact h3⟩
  · rcases hfar v hv with rfl | h1
    · rcases h.org a (by simp) with h1 | ⟨x, w, h1, h2, h3⟩
      · left; rw [h1]
      · exact .inr ⟨x, w, h1, by rw [hne x h2]; exact h2, by rw [hne x h2, hself]; exact h3⟩
    · rcases h.had v h1 with h2 | ⟨x, w, h2, h3, h4⟩
      · exact .inl h2
      · exact .inr ⟨x, w, h2, by rw [hne x h3]; exact h3, by rw [hne x h3, hne v h1]; exact h4⟩
  · rcases hfar x hx with rfl | h1
    · exact .inl ⟨rfl, hop_edge.2 he⟩
    · rw [hne x h1]
      rcases h.edge x y w he h1 with ⟨-, h2⟩ | ⟨h2, h3⟩ | h2
      · cases h2
      · exact .inr (.inl ⟨by rw [hne y h2]; exact h2, by rw [hne y h2]; exact h3⟩)
      · rcases List.mem_cons.1 h2 with h3 | h3
        · refine .inr (.inl ?_)
          have e1 : y = a.1 := by rw [← h3]
          have e2 : fv far x + w - 1 = a.2 := by rw [← h3]
          rw [e1, hself]
          omega
        · exact .inr (.inr h3)
  · rw [hs]; split
    · have := hle q hq; omega
    · exact h.mono q (by simp [hq]) v
  · rcases hfar v hv with rfl | h1
    · rw [hself]
      rcases h.org a (by simp) with h1 | ⟨x, w, h1, h2, h3⟩
      · rw [h1]; exact .here
      · rw [h3]; exact Dwk.on (h.rch x h2) h1
    · rw [hne v h1]; exact h.rch v h1
  · rw [hself]; exact ⟨by omega, hmx⟩
/-- one hop is handed on -/
theorem Dj.push {E : List Eg} {s u : Nat} {far : List Nat} {Q rest : List (Nat × Nat)} {hp : Nat × Nat} (h : Dj E s far Q u (hp :: rest)) : Dj E s far (Q ++ [(hp.1, fv far u - 1 + hp.2)]) u rest := by
  obtain ⟨hu, htop⟩ := h.top (by simp)
  have hed := h.hop hp (by simp)
  refine ⟨?_, fun q hq => ?_, h.had, fun x y w he hx => ?_, fun q hq v => ?_, h.rch, fun hr => ⟨hu, htop⟩, fun k hk => h.hop k (by simp [hk])⟩
  · rcases h.src with h1 | ⟨-, h2⟩
    · exact .inl h1
    · exact absurd (h2 u) hu
  · rcases List.mem_append.1 hq with h1 | h1
    · exact h.org q h1
    · rw [List.mem_singleton.1 h1]
      exact .inr ⟨u, hp.2, hed, hu, by dsimp only; omega⟩
  · rcases h.edge x y w he hx with ⟨h1, h2⟩ | h1 | h1
    · rcases List.mem_cons.1 h2 with h3 | h3
      · refine .inr (.inr (List.mem_append.2 (.inr (List.mem_singleton.2 ?_))))
        rw [← h3, h1]
        have : fv far u + w - 1 = fv far u - 1 + w := by omega
        rw [this]
      · exact .inl ⟨h1, h3⟩
    · exact .inr (.inl h1)
    · exact .inr (.inr (List.mem_append.2 (.inl h1)))
  · rcases List.mem_append.1 hq with h1 | h1
    · exact h.mono q h1 v
    · rw [List.mem_singleton.1 h1]
      have := htop v
      dsimp only; omega
/-- what is told at the end -/
structure Told (E : List Eg) (s : Nat) (far : List Nat) : Prop where
  src : fv far s = 1
  edge : ∀ x y w, (x, y, w) ∈ E → fv far x ≠ 0 → fv far y ≠ 0 ∧ fv far y ≤ fv far x + w
  had : ∀ v, fv far v ≠ 0 → v = s ∨ ∃ x w, (x, v, w) ∈ E ∧ fv far x ≠ 0 ∧ fv far v = fv far x + w
  rch : ∀ v, fv far v ≠ 0 ↔ Rch E s v
  wlk : ∀ v, fv far v ≠ 0 → Dwk E s v (fv far v)
theorem Dj.done {E : List Eg} {s u : Nat} {far : List Nat} (h : Dj E s far [] u []) : Told E s far := by
  have hsrc : fv far s = 1 := by
    rcases h.src with h1 | ⟨h1, -⟩
    · exact h1
    · cases h1
  have hed : ∀ x y w, (x, y, w) ∈ E → fv far x ≠ 0 → fv far y ≠ 0 ∧ fv far y ≤ fv far x + w := fun x y w he hx => by
    rcases h.edge x y w he hx with ⟨-, h1⟩ | h1 | h1
    · cases h1
    · exact h1
    · cases h1
  refine ⟨hsrc, hed, h.had, fun v => ⟨fun hv => (h.rch v hv).rch, fun hr => ?_⟩, h.rch⟩
  induction hr with
  | here => omega
  | on _ he ih => exact (hed _ _ _ he ih).1
/-- edges that are still to be handed on -/
def pend (E : List Eg) (far : List Nat) : Nat := E.countP fun e => fv far e.1 == 0
theorem pend_set {E : List Eg} {far : List Nat} {v x : Nat} (h : v < far.length) (h0 : fv far v = 0) : pend E (far.set v (x + 1)) + (hopsL E v).length = pend E far := by
  have hs := fv_set h (x + 1)
  unfold pend hopsL
  rw [List.length_map, ← List.countP_eq_length_filter]
  induction E with
  | nil => rfl
  | cons e E ih =>
    rw [List.countP_cons, List.countP_cons, List.countP_cons]
    have h1 : (fv (far.set v (x + 1)) e.1 == 0) = (if e.1 = v then false else fv far e.1 == 0) := by
      rw [hs]; split
      · simp
      · rfl
    rw [h1]
    by_cases hv : e.1 = v
    · have h2 : fv far e.1 = 0 := by rw [hv]; exact h0
      simp [hv, h0]; omega
    · simp [hv]; omega
end Go.Proofs.Ytiaflhlfodcbjaa
