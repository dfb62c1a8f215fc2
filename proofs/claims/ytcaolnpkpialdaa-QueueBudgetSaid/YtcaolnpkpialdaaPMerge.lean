/- Merging: plain laws. No program walked. -/
import Derived.Test.YtcaolnpkpialdaaHeads2
namespace Go.Proofs.Ytcaolnpkpialdaa
open Go.RowKit Go.Sort Go.Proofs
def leM (x y : Nat × Nat) : Prop := leO cfM x y = true
theorem leM_tr {x y z : Nat × Nat} (h1 : leM x y) (h2 : leM y z) : leM x z := leO_trans swoM x y z h1 h2
/-- what stands while lists are merged -/
structure MInv (F out : List (Nat × Nat)) (lst : List Hd) : Prop where
  perm : (out ++ lst.flatMap Hd.left).Perm F
  so : out.Pairwise leM
  sl : ∀ h ∈ lst, h.left.Pairwise leM
  lo : ∀ x ∈ out, ∀ h ∈ lst, ∀ y ∈ h.left, leM x y
theorem hd_first {h : Hd} {x : Nat × Nat} {r : List (Nat × Nat)} (e : h.left = x :: r) : h.hd = x := by unfold Hd.hd; rw [e]; rfl
theorem flat_perm {l l' : List Hd} (h : l.Perm l') : (l.flatMap Hd.left).Perm (l'.flatMap Hd.left) := h.flatMap_right _
/-- the least head's first piece goes out -/
theorem MInv.step {F out : List (Nat × Nat)} {lst l' l'' : List Hd} {a : Hd} {x : Nat × Nat} {r : List (Nat × Nat)} (H : MInv F out lst) (hp : (a :: l').Perm lst) (ha : a.left = x :: r) (hle : ∀ y ∈ lst, hdLe a y) (hne : ∀ h ∈ lst, 0 < h.left.length)
    (hl : (r = [] ∧ l'' = l') ∨ (∃ a', a'.left = r ∧ l''.Perm (l' ++ [a']))) : MInv F (out ++ [x]) l'' := by
  have hal : a ∈ lst := hp.mem_iff.1 (List.mem_cons_self ..)
  have hl' : ∀ h ∈ l', h ∈ lst := fun h hh => hp.mem_iff.1 (List.mem_cons_of_mem _ hh)
  have hsa := H.sl a hal
  rw [ha, List.pairwise_cons] at hsa
  -- all that is left
  have hfl : (l''.flatMap Hd.left).Perm (r ++ l'.flatMap Hd.left) := by
    rcases hl with ⟨rfl, rfl⟩ | ⟨a', e, hq⟩
    · exact List.Perm.refl _
    · refine (flat_perm hq).trans ?_
      rw [List.flatMap_append]
      have e2 : [a'].flatMap Hd.left = r := by simp [e]
      rw [e2]
      exact List.perm_append_comm
  have hmem : ∀ h ∈ l'', ∀ y ∈ h.left, y ∈ r ∨ ∃ h' ∈ l', y ∈ h'.left := fun h hh y hy => by
    have h1 : y ∈ l''.flatMap Hd.left := List.mem_flatMap.2 ⟨h, hh, hy⟩
    rcases List.mem_append.1 (hfl.mem_iff.1 h1) with h2 | h2
    · exact .inl h2
    · exact .inr (List.mem_flatMap.1 h2)
  have hx : ∀ h ∈ l'', ∀ y ∈ h.left, leM x y := fun h hh y hy => by
    rcases hmem h hh y hy with h2 | ⟨h', hh', hy'⟩
    · exact hsa.1 y h2
    · have h3 := hle h' (hl' h' hh')
      have h4 := hne h' (hl' h' hh')
      have h5 := H.sl h' (hl' h' hh')
      cases hc : h'.left with
      | nil => rw [hc] at h4; simp at h4
      | cons z s =>
        rw [hc, List.pairwise_cons] at h5
        have ez := hd_first hc
        have hxz : leM x z := by
          rw [leM, leM_iff]
          unfold hdLe at h3
          rw [hd_first ha, ez] at h3
          omega
        rw [hc] at hy'
        rcases List.mem_cons.1 hy' with rfl | hy'
        · exact hxz
        · exact leM_tr hxz (h5.1 y hy')
  refine ⟨?_, ?_, fun h hh => ?_, fun z hz h hh y hy => ?_⟩
  · refine List.Perm.trans ?_ H.perm
    rw [List.append_assoc]
    refine List.Perm.append_left out ?_
    refine List.Perm.trans ?_ (flat_perm hp)
    rw [List.flatMap_cons, ha]
    exact List.Perm.cons x hfl
  · rw [List.pairwise_append]
    refine ⟨H.so, by simp, fun z hz w hw => ?_⟩
    rw [List.mem_singleton.1 hw]
    exact H.lo z hz a hal x (by rw [ha]; simp)
  · rcases hl with ⟨rfl, rfl⟩ | ⟨a', e, hq⟩
    · exact H.sl h (hl' h hh)
    · rcases List.mem_append.1 (hq.mem_iff.1 hh) with h2 | h2
      · exact H.sl h (hl' h h2)
      · rw [List.mem_singleton.1 h2, e]; exact hsa.2
  · rcases List.mem_append.1 hz with hz | hz
    · rcases hmem h hh y hy with h2 | ⟨h', hh', hy'⟩
      · exact H.lo z hz a hal y (by rw [ha]; simp [h2])
      · exact H.lo z hz h' (hl' h' hh') y hy'
    · rw [List.mem_singleton.1 hz]; exact hx h hh y hy
theorem MInv.done {F out : List (Nat × Nat)} (H : MInv F out []) : out = srt cfM F := by
  have hp := H.perm
  rw [List.flatMap_nil, List.append_nil] at hp
  exact (srt_unique swoM totM hp H.so).symm
theorem MInv.begin_ {F : List (Nat × Nat)} {lst : List Hd} (hp : (lst.flatMap Hd.left).Perm F) (hs : ∀ h ∈ lst, h.left.Pairwise leM) : MInv F [] lst :=
  ⟨by simpa using hp, List.Pairwise.nil, hs, fun x hx => by cases hx⟩
/-- mail without its first piece, as it lies in memory -/
theorem slM_tail {w : World} {b off c n : Nat} {x : Nat × Nat} {r : List (Nat × Nat)} (h : Sl w 2 (.slice (some ⟨b, off, none⟩) n c) n (mcs (x :: r))) : Sl w 2 (.slice (some ⟨b, off + 2, none⟩) (n - 1) (c - 1)) (n - 1) (mcs r) := by
  obtain ⟨hn, hnc, _⟩ := h.mlen
  rw [List.length_cons] at hn
  obtain ⟨p', c', hp, h1, h2, h3, h4, h5⟩ := h
  cases hp
  refine ⟨_, _, rfl, by omega, by omega, by rw [mcs_len]; omega, (fun h => by cases h), ?_⟩
  rcases h5 with h5 | ⟨b', off', hb, h5⟩
  · have := congrArg List.length h5
    rw [mcs_len] at this; simp at this
  · cases hb
    refine .inr ⟨b, off + 2, rfl, fun j u hj => ?_⟩
    have e : (mcs (x :: r))[j + 2]? = some u := by
      show ([Value.int .i64 (x.1 : Int), .int .i64 (x.2 : Int)] ++ mcs r)[j + 2]? = _
      rw [List.getElem?_append_right (by simp)]
      simpa using hj
    have := h5 _ u e
    rw [show off + 2 + j = off + (j + 2) by omega]
    exact this
end Go.Proofs.Ytcaolnpkpialdaa
