/- slices.Sort at a row of integers of the call's own. -/
import Derived.Test.YtiaflhlfodcbjaaSortOwn
import Derived.Test.YtiaflhlfodcbjaaRdS
import Derived.Test.YtiaflhlfodcbjaaLay
import Derived.Shelf.SortM.Plain
import Derived.Shelf.SortM.SortNone
namespace Go.Proofs.Ytiaflhlfodcbjaa
open Go.RowKit Go.Sort Go.Proofs Go.Shelf
theorem its_enc (l : List Int) : its l = l.flatMap fun x => [Value.int .i64 x] := by
  induction l with
  | nil => rfl
  | cons a l ih => rw [List.flatMap_cons, ← ih]; rfl
theorem putRow_flat (w : World) (g : Nat) (d : Array Int) : putRow (Value.int .i64) w g 0 d = putRowK (fun x => [Value.int .i64 x]) 1 w g 0 d := by
  have h : ∀ c : Array Value, putCells (Value.int .i64) 0 d c = putCells id 0 (flatK (fun x => [Value.int .i64 x]) 1 d) c := by
    intro c
    unfold putCells
    apply Array.ext
    · simp
    · intro i h1 h2
      rw [Array.getElem_mapIdx, Array.getElem_mapIdx]
      have hs : (flatK (fun x => [Value.int .i64 x]) 1 d).size = d.size := by simp
      by_cases hi : 0 ≤ i ∧ i < 0 + d.size
      · rw [if_pos hi, if_pos (by rw [hs]; exact hi)]
        have h3 := get_flatK (fun x => [Value.int .i64 x]) 1 d (i - 0) (by omega)
        show _ = (flatK (fun x => [Value.int .i64 x]) 1 d)[i - 0]!
        rw [h3]
        simp [Nat.mod_one]
      · rw [if_neg hi, if_neg (by rw [hs]; exact hi)]
  unfold putRowK putRow
  rw [show putCells (Value.int .i64) 0 d = putCells id 0 (flatK (fun x => [Value.int .i64 x]) 1 d) from funext h]
theorem its_len (l : List Int) : (its l).length = l.length := by simp [its]
theorem sortI_ok (p : Option Addr) (n c base : Nat) (l : List Int) (W : World) (hown : W.ownsRow base 3 1 (.slice p n c) n (its l)) (hn : n ≤ 100000) (hbase : base ≤ W.heap.size) :
    Calls Try.prog 28 #[.slice p n c] W fun e w' => e = .returned (.tuple #[]) ∧ w'.ownsRow base 3 1 (.slice p n c) n (its (sortI l)) ∧ (W.grownBy w' (Value.slice p n c).ownBlock) := by
  have hln : n = l.length := by have := hown.1; rw [its_len] at this; omega
  by_cases h0 : n = 0
  · subst h0
    obtain rfl : l = [] := List.eq_nil_of_length_eq_zero hln.symm
    have hcon := AnyM.slices_Sort_int_none laySortI p c W
    change Calls Try.prog 28 _ _ _ at hcon
    refine hcon.mono ?_
    rintro e w' ⟨rfl, rfl⟩
    exact ⟨rfl, by rw [show sortI [] = [] from by unfold sortI; exact List.mergeSort_nil]; exact hown, World.grownBy.refl _ _⟩
  · have hown' := hown
    rcases hown'.2 with ⟨_, h⟩ | ⟨g, cap, cur, h1, hb, h2, _⟩
    · exact absurd h h0
    · cases h1
      have hg : g < W.heap.size := (Array.getElem?_eq_some_iff.1 h2).1
      have hf : ∀ j, W.frozen? ⟨g, 0 + j, none⟩ = false := fun j => by simp [World.frozen?, h2]
      have hH : Holds (Value.int .i64) W g 0 l.toArray := fun j hj => by
        refine ⟨?_, hf j⟩
        have hj' : j < l.length := by simpa using hj
        have hc := hown.cells (g := g) rfl j (.int .i64 l[j]) (by unfold its; rw [List.getElem?_map, List.getElem?_eq_getElem hj']; rfl)
        rw [add_none] at hc
        rw [getElem!_pos _ j hj]
        exact hc
      have hcon := AnyM.slices_Sort_int laySortI g 0 c l W hH hg (by omega)
      change Calls Try.prog 28 _ _ _ at hcon
      rw [← hln] at hcon
      refine hcon.mono ?_
      rintro e w' ⟨rfl, m, os, rfl⟩
      rw [its_enc] at hown
      obtain ⟨h3, h4⟩ := own_sorted (d' := sortI l) (fun x => [Value.int .i64 x]) 1 (fun _ => rfl) (by decide) hown (sortI_len l) m os
      unfold sortWorldK at h3 h4
      rw [← putRow_flat] at h3 h4
      rw [← its_enc] at h3
      exact ⟨rfl, h3, h4⟩
end Go.Proofs.Ytiaflhlfodcbjaa
