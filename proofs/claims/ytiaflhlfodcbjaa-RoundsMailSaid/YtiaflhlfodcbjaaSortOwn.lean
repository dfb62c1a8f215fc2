/- Sorting a row of the call's own: what the shelf's contract of slices.SortFunc says of the world, said of the row. -/
import Derived.Test.YtiaflhlfodcbjaaOwn3
import Derived.Shelf.SlSortCmp.NoneTotal
namespace Go.Proofs.Ytiaflhlfodcbjaa
open Go.RowKit Go.Sort Go.Proofs
section
variable {α : Type} [Inhabited α]
theorem flatMap_at (enc : α → List Value) (k : Nat) (hk : ∀ x, (enc x).length = k) (hk0 : 0 < k) : ∀ (l : List α) (t : Nat), t < l.length * k → (l.flatMap enc)[t]? = (enc (l.toArray)[t / k]!)[t % k]? := by
  intro l
  induction l with
  | nil => intro t h; simp at h
  | cons a l ih =>
    intro t h
    rw [List.flatMap_cons]
    by_cases ht : t < k
    · rw [List.getElem?_append_left (by rw [hk]; exact ht), Nat.div_eq_of_lt ht, Nat.mod_eq_of_lt ht]; rfl
    · obtain ⟨u, rfl⟩ : ∃ u, t = u + k := ⟨t - k, by omega⟩
      rw [List.getElem?_append_right (by rw [hk]; omega), hk, Nat.add_sub_cancel, ih u (by rw [List.length_cons, Nat.succ_mul] at h; omega), Nat.add_div_right _ hk0, Nat.add_mod_right]
      simp
theorem flatK_list (enc : α → List Value) (k : Nat) (hk : ∀ x, (enc x).length = k) (hk0 : 0 < k) (l : List α) : (flatK enc k l.toArray).toList = l.flatMap enc := by
  have hlen : ∀ l : List α, (l.flatMap enc).length = l.length * k := by
    intro l
    induction l with
    | nil => simp
    | cons a l ih => rw [List.flatMap_cons, List.length_append, hk, ih, List.length_cons, Nat.succ_mul]; omega
  apply List.ext_getElem?
  intro t
  by_cases ht : t < l.length * k
  · rw [flatMap_at enc k hk hk0 l t ht]
    have h1 : t < (flatK enc k l.toArray).size := by simp; exact ht
    rw [Array.getElem?_toList, Array.getElem?_eq_getElem h1]
    have h2 := get_flatK enc k l.toArray t (by simpa using ht)
    rw [getElem!_pos _ t h1] at h2
    rw [h2]
    have h3 : t % k < (enc (l.toArray)[t / k]!).length := by rw [hk]; exact Nat.mod_lt _ hk0
    rw [List.getElem?_eq_getElem h3, getElem!_pos (enc (l.toArray)[t / k]!) (t % k) h3]
  · rw [List.getElem?_eq_none (by simp; omega), List.getElem?_eq_none (by rw [hlen]; omega)]
theorem holdsK_of_own {w : World} {base : Nat} {E : TypeId} {g c n : Nat} {l : List α} (enc : α → List Value) (k : Nat) (hk : ∀ x, (enc x).length = k) (hk0 : 0 < k) (h : w.ownsRow base E k (.slice (some ⟨g, 0, none⟩) n c) n (l.flatMap enc)) : HoldsK enc k w g 0 l.toArray := by
  intro j hj
  have hf : w.frozen? ⟨g, 0 + j, none⟩ = false := by
    rcases h.2 with ⟨h1, _⟩ | ⟨g', cap, cur, h1, _, h2, _⟩
    · cases h1
    · cases h1
      simp [World.frozen?, h2]
  refine ⟨?_, hf⟩
  have hc := h.cells (g := g) rfl j ((flatK enc k l.toArray)[j]!) (by
    rw [← flatK_list enc k hk hk0 l, Array.getElem?_toList, Array.getElem?_eq_getElem hj, getElem!_pos _ j hj])
  rw [add_none] at hc
  exact hc
theorem own_sorted {w : World} {base : Nat} {E : TypeId} {g c n : Nat} {l d' : List α} (enc : α → List Value) (k : Nat) (hk : ∀ x, (enc x).length = k) (hk0 : 0 < k) (h : w.ownsRow base E k (.slice (some ⟨g, 0, none⟩) n c) n (l.flatMap enc)) (hlen : d'.length = l.length) (m : Nat) (os : Array Obj) :
    (sortWorldK enc k w g 0 m d'.toArray os).ownsRow base E k (.slice (some ⟨g, 0, none⟩) n c) n (d'.flatMap enc) ∧ w.grownBy (sortWorldK enc k w g 0 m d'.toArray os) (some g) := by
  have hfl : ∀ l : List α, (l.flatMap enc).length = l.length * k := by
    intro l
    induction l with
    | nil => simp
    | cons a l ih => rw [List.flatMap_cons, List.length_append, hk, ih, List.length_cons, Nat.succ_mul]; omega
  have hn : l.length * k = n * k := by rw [← hfl l]; exact h.1
  rcases h.2 with ⟨h1, _⟩ | ⟨g', cap, cur, h1, hb, h2, h3, h4, h5, h6⟩
  · cases h1
  · cases h1
    have hg : g < w.heap.size := (Array.getElem?_eq_some_iff.1 h2).1
    have hF : (flatK enc k d'.toArray).size = n * k := by simp [hlen, hn]
    have hheap : (sortWorldK enc k w g 0 m d'.toArray os).heap[g]? = some (.cells (putCells id 0 (flatK enc k d'.toArray) cur) E (0, 0)) := by
      unfold sortWorldK grow putRowK putRow mapBlock
      show ((Array.modify w.heap g _) ++ os)[g]? = _
      rw [Array.getElem?_append_left (by simpa using hg), Array.getElem?_modify, if_pos rfl, h2]
      rfl
    constructor
    · refine ⟨by rw [hfl, hlen, hn], .inr ⟨g, c, _, rfl, hb, hheap, h3, h4, by simp [putCells]; exact h5, ?_⟩⟩
      rw [← flatK_list enc k hk hk0 d']
      have hcs : n * k ≤ cur.size := by rw [h5]; exact Nat.mul_le_mul_right _ h3
      apply List.ext_getElem?
      intro t
      by_cases ht : t < n * k
      · rw [List.getElem?_take_of_lt ht, Array.getElem?_toList, Array.getElem?_toList]
        unfold putCells
        rw [Array.getElem?_mapIdx, Array.getElem?_eq_getElem (show t < cur.size by omega), Array.getElem?_eq_getElem (show t < (flatK enc k d'.toArray).size by omega), Option.map_some, if_pos ⟨by omega, by omega⟩]
        rw [Nat.sub_zero, getElem!_pos _ t (by omega)]; rfl
      · rw [List.getElem?_eq_none (by rw [List.length_take]; omega), List.getElem?_eq_none (by rw [Array.length_toList, hF]; omega)]
    · refine ⟨rfl, rfl, rfl, ?_, ?_⟩
      · unfold sortWorldK grow putRowK putRow mapBlock
        show _ ≤ ((Array.modify w.heap g _) ++ os).size
        simp
      · intro b hb' hne
        unfold sortWorldK grow putRowK putRow mapBlock
        show ((Array.modify w.heap g _) ++ os)[b]? = _
        rw [Array.getElem?_append_left (by simpa using hb'), Array.getElem?_modify, if_neg (fun e => hne (by rw [e]))]
end
end Go.Proofs.Ytiaflhlfodcbjaa
