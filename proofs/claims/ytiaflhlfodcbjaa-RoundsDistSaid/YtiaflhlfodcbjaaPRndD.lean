/- What rounds tell of distances and of what is joined is what paths tell: plain laws. No program walked. -/
import Derived.Test.YtiaflhlfodcbjaaPRndS
import Derived.Test.YtiaflhlfodcbjaaPDist
import Derived.Test.YtiaflhlfodcbjaaPWeak
namespace Go.Proofs.Ytiaflhlfodcbjaa
theorem dwk_wt {E : List Eg} {s v d : Nat} (h : Dwk E s v d) : 1 ≤ d ∧ Wt (RA 1 0 E) (fun _ => True) (iniF 1 (s : Int)) v ((d : Int) - 1) := by
  induction h with
  | here =>
    refine ⟨Nat.le_refl _, ?_⟩
    have h0 : iniF 1 (s : Int) s = 0 := by simp [iniF]
    have := Wt.here (R := RA 1 0 E) (U := fun _ => True) (i := iniF 1 (s : Int)) (v := s) trivial (by rw [h0]; exact Int.le_refl _)
    rw [h0] at this
    simpa using this
  | @on x y w d h he ih =>
    refine ⟨by omega, ?_⟩
    have := Wt.on ih.2 (v := y) (w := (w : Int)) ⟨w, by simp [sayF], .inl ⟨rfl, he⟩⟩ trivial
    have e : ((d : Int) - 1) + (w : Int) = ((d + w : Nat) : Int) - 1 := by omega
    rw [e] at this
    exact this
theorem wt_dwk {E : List Eg} {s v : Nat} {m : Int} (h : Wt (RA 1 0 E) (fun _ => True) (iniF 1 (s : Int)) v m) : 0 ≤ m ∧ Dwk E s v (m.toNat + 1) := by
  induction h with
  | @here v _ h0 =>
    unfold iniF at h0 ⊢
    simp only [if_true] at h0 ⊢
    split at h0
    · rename_i e
      have e' : v = s := by omega
      subst e'
      simp
      exact .here
    · omega
  | @on u v w m h hr _ ih =>
    obtain ⟨a, rfl, hr⟩ := hr
    rcases hr with ⟨-, he⟩ | ⟨hw, -⟩
    · obtain ⟨h1, h2⟩ := ih
      have e : sayF 1 0 a = (a : Int) := by simp [sayF]
      rw [e]
      refine ⟨by omega, ?_⟩
      have h3 := Dwk.on h2 he
      have e2 : (m + (a : Int)).toNat + 1 = m.toNat + 1 + a := by omega
      rw [e2]; exact h3
    · simp [wayI] at hw
/-- rounds tell the distances that paths tell -/
theorem dist_same {N : Nat} {E : List Eg} {s : Nat} {far : List Nat} {st : RSt} (hE : EndL 1 (s : Int) N E st) (hT : Told E s far) {v : Nat} (hv : v < N) : (aV st v).1 = (fv far v : Int) - 1 := by
  have hle : ∀ d, Dwk E s v d → fv far v ≠ 0 ∧ fv far v ≤ d := fun d h => by
    clear hv
    induction h with
    | here => have := hT.src; omega
    | on _ he ih =>
      have := hT.edge _ _ _ he ih.1
      omega
  by_cases h0 : fv far v = 0
  · have hl := hE.low v hv
    by_cases ha : 0 ≤ (aV st v).1
    · exact absurd h0 (hle _ (wt_dwk (hE.wit v hv trivial ha)).2).1
    · omega
  · have h1 := dwk_wt (hT.wlk v h0)
    have h2 := hE.le v _ hv h1.2
    have h3 := hle _ (wt_dwk (hE.wit v hv trivial h2.1)).2
    omega
theorem wt_rch {E : List Eg} {v : Nat} {m : Int} (h : Wt (RA 2 0 E) (fun _ => True) (iniF 2 0) v m) : ∃ u : Nat, m = (u : Int) ∧ Rch (bothL E) u v := by
  induction h with
  | @here v _ _ => exact ⟨v, by simp [iniF], .here⟩
  | @on u v w m h hr _ ih =>
    obtain ⟨a, rfl, hr⟩ := hr
    obtain ⟨x, rfl, hx⟩ := ih
    refine ⟨x, by simp [sayF], ?_⟩
    rcases hr with ⟨-, he⟩ | ⟨-, he⟩
    · exact .on hx (both_mem he).1
    · exact .on hx (both_mem he).2
theorem rch_wt {E : List Eg} {u v : Nat} (h : Rch (bothL E) u v) : Wt (RA 2 0 E) (fun _ => True) (iniF 2 0) v (u : Int) := by
  induction h with
  | here =>
    have := Wt.here (R := RA 2 0 E) (U := fun _ => True) (i := iniF 2 0) (v := u) trivial (by simp [iniF])
    simpa [iniF] using this
  | @on x y w h he ih =>
    have e : (u : Int) = (u : Int) + 0 := by omega
    rw [e]
    refine Wt.on ih ?_ trivial
    unfold bothL at he
    obtain ⟨e1, he1, h2⟩ := List.mem_flatMap.1 he
    simp only [List.mem_cons, List.not_mem_nil, or_false] at h2
    rcases h2 with h2 | h2
    · subst h2; exact ⟨w, by simp [sayF], .inl ⟨rfl, he1⟩⟩
    · refine ⟨w, by simp [sayF], .inr ⟨rfl, ?_⟩⟩
      have : e1 = (y, x, w) := by
        obtain ⟨a, b, c⟩ := e1
        simp only [flipE, Prod.mk.injEq] at h2
        obtain ⟨rfl, rfl, rfl⟩ := h2
        rfl
      rw [← this]; exact he1
/-- rounds tell the least that are joined -/
theorem weak_same {N : Nat} {E : List Eg} {wk : List Nat} {st : RSt} (hE : EndL 2 0 N E st) (hW : WeakOk N E wk) {v : Nat} (hv : v < N) : (aV st v).1 = ((wk.getD v 0 : Nat) : Int) := by
  have hc : ∀ u, Rch (bothL E) u v → wk.getD u 0 = wk.getD v 0 := fun u h => by
    clear hv
    induction h with
    | here => rfl
    | @on x y w _ he ih =>
      rw [ih]
      unfold bothL at he
      obtain ⟨e1, he1, h2⟩ := List.mem_flatMap.1 he
      have hs := hW.same e1 he1
      simp only [List.mem_cons, List.not_mem_nil, or_false] at h2
      rcases h2 with h2 | h2
      · rw [← h2] at hs; exact hs
      · have e3 : x = e1.2.1 := by have := congrArg Prod.fst h2; exact this
        have e4 : y = e1.1 := by have := congrArg (fun p => p.2.1) h2; exact this
        rw [e3, e4]; exact hs.symm
  have h1 := hE.le v _ hv (rch_wt (rch_both_sym (hW.rch v hv)))
  obtain ⟨u, hu, hr⟩ := wt_rch (hE.wit v hv trivial h1.1)
  have h2 := hc u hr
  have h3 : u < N ∨ N ≤ u := Nat.lt_or_ge u N
  rcases h3 with h3 | h3
  · have := hW.le u h3
    omega
  · have := hW.le v hv; omega
end Go.Proofs.Ytiaflhlfodcbjaa
