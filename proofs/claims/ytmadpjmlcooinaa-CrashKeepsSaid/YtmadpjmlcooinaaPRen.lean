/- What a renamed disk reads. No program walked. -/
import Derived.Test.YtmadpjmlcooinaaDAny
namespace Go.Proofs.Ytmadpjmlcooinaa
open Go.RowKit
theorem rdF_rmF {l : List Fl} {a b : ByteArray} (hne : a.toList ≠ b.toList) : rdF (rmF l b) a = rdF l a := by
  induction l with
  | nil => rfl
  | cons f l ih =>
    unfold rmF at ih ⊢
    by_cases hf : f.nm.toList = b.toList
    · rw [List.filter_cons_of_neg (by simp [hf]), ih, rdF_cons f l, if_neg (by rw [hf]; exact fun e => hne e.symm)]
    · rw [List.filter_cons_of_pos (by simp [hf]), rdF_cons, rdF_cons, ih]
theorem rdF_of {m : List Fl} {b : ByteArray} {i : Nat} {f : Fl} {d : List Nat} (h1 : ixF m b = i) (h2 : m[i]? = some f) (h3 : f.dt = d) : rdF m b = some d := by
  subst h1
  obtain ⟨hi, he⟩ := List.getElem?_eq_some_iff.1 h2
  unfold rdF
  rw [dif_pos hi, he, h3]
theorem rdF_far {m : List Fl} {b : ByteArray} (h1 : ixF m b = m.length) : rdF m b = none := by
  unfold rdF
  rw [dif_neg (by omega)]
theorem rdF_reF {fs : List Fl} {a b : ByteArray} {d : List Nat} (hp : fs.Pairwise (fun a b => a.nm.toList ≠ b.nm.toList)) (hd : rdF fs a = some d) (hne : a.toList ≠ b.toList) :
    rdF (reF fs a b) b = some d ∧ rdF (reF fs a b) a = none ∧ 0 < (reF fs a b).length := by
  have hm := rdF_rmF (l := fs) hne
  rw [hd] at hm
  obtain ⟨hi, hdt⟩ := rdF_some hm
  have hpm : (rmF fs b).Pairwise (fun a b => a.nm.toList ≠ b.nm.toList) := hp.filter _
  have hnb : ∀ i, (h : i < (rmF fs b).length) → (rmF fs b)[i].nm.toList ≠ b.toList := by
    intro i h e
    have := (List.mem_filter.1 (List.getElem_mem h)).2
    simp [e] at this
  unfold reF
  rw [if_neg hne]
  simp only
  rw [dif_pos hi]
  generalize rmF fs b = m at *
  have hat := ixF_at hi
  have e1 : ixF (m.set (ixF m a) { m[ixF m a] with nm := b }) b = ixF m a := by
    refine ixF_eq (fun i h1 h2 => ?_) (.inr ⟨by rw [List.length_set]; exact hi, by rw [List.getElem_set, if_pos rfl]⟩)
    rw [List.getElem_set, if_neg (by omega)]
    exact hnb i (by rw [List.length_set] at h1; exact h1)
  have e2 : ixF (m.set (ixF m a) { m[ixF m a] with nm := b }) a = (m.set (ixF m a) { m[ixF m a] with nm := b }).length := by
    refine ixF_eq (fun i h1 _ => ?_) (.inl rfl)
    rw [List.length_set] at h1
    rw [List.getElem_set]
    by_cases hix : ixF m a = i
    · rw [if_pos hix]; exact fun e => hne e.symm
    · rw [if_neg hix]
      intro e
      rcases Nat.lt_or_gt_of_ne hix with hlt | hlt
      · exact List.pairwise_iff_getElem.1 hpm (ixF m a) i hi h1 hlt (by rw [hat, e])
      · exact List.pairwise_iff_getElem.1 hpm i (ixF m a) h1 hi hlt (by rw [hat, e])
  refine ⟨rdF_of (f := { m[ixF m a] with nm := b }) e1 (by rw [List.getElem?_set, if_pos rfl, if_pos hi]) hdt, rdF_far e2, by rw [List.length_set]; omega⟩
theorem rename_yes (nm tn : ByteArray) (v : Value) (l : List (Fl × Value)) (w : World) (hR : RDk w 0 v l) (hD : DkOk (l.map (·.1))) (ht : NmOk tn) (hi : ixF (l.map (·.1)) nm < l.length) :
    Calls Try.prog 32 #[.agg #[v], .string nm, .string tn] w fun e w' => ∃ p c l', e = .returned (.tuple #[.agg #[.slice p l'.length c], .int .i64 0]) ∧ Hid (l'.map (·.1) = reF (l.map (·.1)) nm tn) ∧ RDk w' w.heap.size (.slice p l'.length c) l' ∧ Below w.heap.size w w' := by
  by_cases he : nm.toList = tn.toList
  · refine (rename_same nm v l tn w hR hD ht hi he).mono ?_
    rintro e w' ⟨p, c, l', rfl, h1, h2, h3⟩
    exact ⟨p, c, l', rfl, Lib.hid (by unfold reF; rw [if_pos he]; exact h1.out), h2, h3⟩
  · exact rename_hit nm v l tn w hR hD ht hi he
theorem RdB.isB {w : World} {B : Nat} {v : Value} {d : List Nat} (h : RdB w B 1 v d.length (bys d)) (hb : AllB d) : IsB w v d := ⟨h.1, hb⟩
theorem DnOk.allB {i : Nat} {fs : List Fl} {nm : ByteArray} {d : List Nat} (h : DnOk i fs) (hd : rdF fs nm = some d) : AllB d := by
  obtain ⟨hi, rfl⟩ := rdF_some hd
  exact (h.ok _ (List.getElem_mem hi)).2.2.2
end Go.Proofs.Ytmadpjmlcooinaa
