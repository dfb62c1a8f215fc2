/- What is done with a disk keeps it one that may be; what is read behind it. No program walked. -/
import Derived.Test.YtmadpjmlcooinaaName
namespace Go.Proofs.Ytmadpjmlcooinaa
theorem ixF_cons (f : Fl) (l : List Fl) (nm : ByteArray) : ixF (f :: l) nm = if f.nm.toList = nm.toList then 0 else ixF l nm + 1 := rfl
theorem rdF_cons (f : Fl) (l : List Fl) (nm : ByteArray) : rdF (f :: l) nm = if f.nm.toList = nm.toList then some f.dt else rdF l nm := by
  unfold rdF
  by_cases h : f.nm.toList = nm.toList
  · simp [ixF_cons, h]
  · simp only [ixF_cons, h, if_false, List.length_cons, Nat.add_lt_add_iff_right, List.getElem_cons_succ]
theorem apF_cons (f : Fl) (l : List Fl) (nm : ByteArray) (b : List Nat) : apF (f :: l) nm b = if f.nm.toList = nm.toList then { f with dt := f.dt ++ b } :: l else f :: apF l nm b := by
  unfold apF
  by_cases h : f.nm.toList = nm.toList
  · simp [ixF_cons, h]
  · simp only [ixF_cons, h, if_false, List.length_cons, Nat.add_lt_add_iff_right, List.getElem_cons_succ, List.set_cons_succ]
    split <;> rfl
theorem syF_cons (f : Fl) (l : List Fl) (nm : ByteArray) : syF (f :: l) nm = if f.nm.toList = nm.toList then { f with sy := f.dt.length } :: l else f :: syF l nm := by
  unfold syF
  by_cases h : f.nm.toList = nm.toList
  · simp [ixF_cons, h]
  · simp only [ixF_cons, h, if_false, List.length_cons, Nat.add_lt_add_iff_right, List.getElem_cons_succ, List.set_cons_succ]
    split <;> rfl
theorem rdF_nil (nm : ByteArray) : rdF [] nm = none := rfl
theorem apF_nil (nm : ByteArray) (b : List Nat) : apF [] nm b = [⟨nm, b, 0⟩] := rfl
theorem rdF_apF (l : List Fl) (nm : ByteArray) (b : List Nat) : rdF (apF l nm b) nm = some ((rdF l nm).getD [] ++ b) := by
  induction l with
  | nil => rw [apF_nil, rdF_cons, if_pos rfl]; rfl
  | cons f l ih =>
    rw [apF_cons, rdF_cons f l]
    by_cases h : f.nm.toList = nm.toList
    · rw [if_pos h, if_pos h, rdF_cons, if_pos h]; rfl
    · rw [if_neg h, if_neg h, rdF_cons, if_neg h]; exact ih
theorem rdF_apF_ne (l : List Fl) (nm o : ByteArray) (b : List Nat) (hne : nm.toList ≠ o.toList) : rdF (apF l nm b) o = rdF l o := by
  induction l with
  | nil => rw [apF_nil, rdF_cons, if_neg hne]
  | cons f l ih =>
    rw [apF_cons, rdF_cons f l]
    by_cases h : f.nm.toList = nm.toList
    · rw [if_pos h, rdF_cons]
      show (if f.nm.toList = o.toList then some (f.dt ++ b) else rdF l o) = _
      rw [if_neg (by rw [h]; exact hne), if_neg (by rw [h]; exact hne)]
    · rw [if_neg h, rdF_cons, ih]
/-- a disk behind i notes -/
structure DnOk (i : Nat) (fs : List Fl) : Prop where
  ok : ∀ f ∈ fs, (∃ c, c < 4 ∧ f.nm = nmC c) ∧ f.sy ≤ f.dt.length ∧ f.dt.length ≤ 30 * i ∧ AllB f.dt
  one : (fs.map fun f => f.nm.toList).Nodup
  len : fs.length ≤ i
theorem DnOk.dk {i : Nat} {fs : List Fl} (h : DnOk i fs) (hi : i ≤ 40) : DkOk fs := by
  refine ⟨fun f hf => ?_, ?_, Nat.le_trans h.len hi⟩
  · obtain ⟨⟨c, hc, hn⟩, h2, h3, h4⟩ := h.ok f hf
    exact ⟨by rw [hn]; exact nmC_ok hc, h2, by omega, h4⟩
  · have := h.one
    unfold List.Nodup at this
    rwa [List.pairwise_map] at this
theorem DnOk.nil (i : Nat) : DnOk i [] := ⟨fun f hf => (by cases hf), List.nodup_nil, Nat.zero_le _⟩
theorem DnOk.mono {i j : Nat} {fs : List Fl} (h : DnOk i fs) (hij : i ≤ j) : DnOk j fs := ⟨fun f hf => by
  obtain ⟨h1, h2, h3, h4⟩ := h.ok f hf
  exact ⟨h1, h2, by omega, h4⟩, h.one, Nat.le_trans h.len hij⟩
theorem apF_names (l : List Fl) (nm : ByteArray) (b : List Nat) : (apF l nm b).map (fun f => f.nm.toList) = l.map (fun f => f.nm.toList) ∨ ((apF l nm b).map (fun f => f.nm.toList) = l.map (fun f => f.nm.toList) ++ [nm.toList] ∧ nm.toList ∉ l.map fun f => f.nm.toList) := by
  induction l with
  | nil => exact .inr ⟨rfl, by simp⟩
  | cons f l ih =>
    rw [apF_cons]
    by_cases h : f.nm.toList = nm.toList
    · rw [if_pos h]; exact .inl rfl
    · rw [if_neg h]
      rcases ih with ih | ⟨ih, hn⟩
      · exact .inl (by rw [List.map_cons, ih]; rfl)
      · exact .inr ⟨by rw [List.map_cons, ih]; rfl, by rw [List.map_cons, List.mem_cons]; exact fun e => e.elim (fun e => h e.symm) hn⟩
theorem apF_mem {l : List Fl} {nm : ByteArray} {b : List Nat} {f : Fl} (h : f ∈ apF l nm b) : f ∈ l ∨ f = ⟨nm, b, 0⟩ ∨ ∃ g ∈ l, f = { g with dt := g.dt ++ b } := by
  induction l with
  | nil => rw [apF_nil] at h; exact .inr (.inl (List.mem_singleton.1 h))
  | cons g l ih =>
    rw [apF_cons] at h
    by_cases hg : g.nm.toList = nm.toList
    · rw [if_pos hg] at h
      rcases List.mem_cons.1 h with h | h
      · exact .inr (.inr ⟨g, List.mem_cons_self, h⟩)
      · exact .inl (List.mem_cons_of_mem _ h)
    · rw [if_neg hg] at h
      rcases List.mem_cons.1 h with h | h
      · exact .inl (by rw [h]; exact List.mem_cons_self)
      · rcases ih h with h | h | ⟨x, hx, h⟩
        · exact .inl (List.mem_cons_of_mem _ h)
        · exact .inr (.inl h)
        · exact .inr (.inr ⟨x, List.mem_cons_of_mem _ hx, h⟩)
theorem DnOk.ap {i c : Nat} {fs : List Fl} {b : List Nat} (h : DnOk i fs) (hc : c < 4) (hb : b.length ≤ 30) (hB : AllB b) : DnOk (i + 1) (apF fs (nmC c) b) := by
  refine ⟨fun f hf => ?_, ?_, ?_⟩
  · rcases apF_mem hf with hf | rfl | ⟨g, hg, rfl⟩
    · obtain ⟨h1, h2, h3, h4⟩ := h.ok f hf
      exact ⟨h1, h2, by omega, h4⟩
    · exact ⟨⟨c, hc, rfl⟩, Nat.zero_le _, by show b.length ≤ _; omega, hB⟩
    · obtain ⟨h1, h2, h3, h4⟩ := h.ok g hg
      refine ⟨h1, ?_, ?_, ?_⟩
      · show g.sy ≤ (g.dt ++ b).length; rw [List.length_append]; omega
      · show (g.dt ++ b).length ≤ _; rw [List.length_append]; omega
      · intro x hx
        rcases List.mem_append.1 hx with hx | hx
        · exact h4 x hx
        · exact hB x hx
  · rcases apF_names fs (nmC c) b with e | ⟨e, hn⟩
    · rw [e]; exact h.one
    · rw [e, List.nodup_append]
      exact ⟨h.one, by simp, fun x hx y hy e => hn (by rw [List.mem_singleton.1 hy] at e; rw [← e]; exact hx)⟩
  · rcases apF_names fs (nmC c) b with e | ⟨e, _⟩
    · have := congrArg List.length e; rw [List.length_map, List.length_map] at this; have := h.len; omega
    · have := congrArg List.length e; rw [List.length_map, List.length_append, List.length_map] at this; have := h.len; simp at *; omega
theorem syF_names (l : List Fl) (nm : ByteArray) : (syF l nm).map (fun f => f.nm.toList) = l.map (fun f => f.nm.toList) := by
  induction l with
  | nil => rfl
  | cons f l ih =>
    rw [syF_cons]
    split
    · rfl
    · rw [List.map_cons, ih]; rfl
theorem syF_mem {l : List Fl} {nm : ByteArray} {f : Fl} (h : f ∈ syF l nm) : f ∈ l ∨ ∃ g ∈ l, f = { g with sy := g.dt.length } := by
  induction l with
  | nil => cases h
  | cons g l ih =>
    rw [syF_cons] at h
    split at h
    · rcases List.mem_cons.1 h with h | h
      · exact .inr ⟨g, List.mem_cons_self, h⟩
      · exact .inl (List.mem_cons_of_mem _ h)
    · rcases List.mem_cons.1 h with h | h
      · exact .inl (by rw [h]; exact List.mem_cons_self)
      · rcases ih h with h | ⟨x, hx, h⟩
        · exact .inl (List.mem_cons_of_mem _ h)
        · exact .inr ⟨x, List.mem_cons_of_mem _ hx, h⟩
theorem DnOk.syn {i : Nat} {fs : List Fl} {nm : ByteArray} (h : DnOk i fs) : DnOk i (syF fs nm) := by
  refine ⟨fun f hf => ?_, by rw [syF_names]; exact h.one, ?_⟩
  · rcases syF_mem hf with hf | ⟨g, hg, rfl⟩
    · exact h.ok f hf
    · obtain ⟨h1, _, h3, h4⟩ := h.ok g hg
      exact ⟨h1, Nat.le_refl _, h3, h4⟩
  · have := congrArg List.length (syF_names fs nm); rw [List.length_map, List.length_map] at this; have := h.len; omega
theorem DnOk.rm {i : Nat} {fs : List Fl} {nm : ByteArray} (h : DnOk i fs) : DnOk i (rmF fs nm) :=
  ⟨fun f hf => h.ok f (List.mem_filter.1 hf).1, (List.Sublist.map _ List.filter_sublist).nodup h.one, Nat.le_trans (List.length_filter_le _ _) h.len⟩
theorem nodup_set {α : Type} {l : List α} {x : α} (h : l.Nodup) (hx : x ∉ l) (i : Nat) : (l.set i x).Nodup := by
  induction l generalizing i with
  | nil => simp
  | cons a l ih =>
    rw [List.nodup_cons] at h
    have hx1 : x ≠ a := fun e => hx (by rw [e]; exact List.mem_cons_self)
    have hx2 : x ∉ l := fun e => hx (List.mem_cons_of_mem _ e)
    cases i with
    | zero => rw [List.set_cons_zero, List.nodup_cons]; exact ⟨hx2, h.2⟩
    | succ i =>
      rw [List.set_cons_succ, List.nodup_cons]
      refine ⟨fun e => ?_, ih h.2 hx2 i⟩
      rcases List.mem_or_eq_of_mem_set e with e | e
      · exact h.1 e
      · exact hx1 e.symm
theorem DnOk.re {i c : Nat} {fs : List Fl} {nm : ByteArray} (h : DnOk i fs) (hc : c < 4) : DnOk i (reF fs nm (nmC c)) := by
  unfold reF
  split
  · exact h
  · have hr := h.rm (nm := nmC c)
    have hni : (nmC c).toList ∉ (rmF fs (nmC c)).map fun f => f.nm.toList := by
      intro e
      obtain ⟨f, hf, he⟩ := List.mem_map.1 e
      have := (List.mem_filter.1 hf).2
      simp [he] at this
    simp only
    split
    · rename_i hlt
      refine ⟨fun f hf => ?_, ?_, by rw [List.length_set]; exact hr.len⟩
      · rcases List.mem_or_eq_of_mem_set hf with hf | rfl
        · exact hr.ok f hf
        · obtain ⟨_, h2, h3, h4⟩ := hr.ok _ (List.getElem_mem hlt)
          exact ⟨⟨c, hc, rfl⟩, h2, h3, h4⟩
      · rw [List.map_set]
        exact nodup_set hr.one hni _
    · exact hr
theorem DnOk.cr {i k : Nat} {fs : List Fl} (h : DnOk i fs) : DnOk i (crF fs k) := by
  refine ⟨fun f hf => ?_, ?_, by unfold crF; rw [List.length_map]; exact h.len⟩
  · obtain ⟨g, hg, rfl⟩ := List.mem_map.1 hf
    obtain ⟨h1, h2, h3, h4⟩ := h.ok g hg
    refine ⟨h1, ?_, ?_, fun x hx => h4 x (List.mem_of_mem_take hx)⟩
    · show g.sy + min k (g.dt.length - g.sy) ≤ (g.dt.take _).length
      rw [List.length_take]; omega
    · show (g.dt.take _).length ≤ _
      rw [List.length_take]; omega
  · have e : (crF fs k).map (fun f => f.nm.toList) = fs.map fun f => f.nm.toList := by unfold crF; rw [List.map_map]; rfl
    rw [e]; exact h.one
end Go.Proofs.Ytmadpjmlcooinaa
