/- slices.SortFunc at mail in order, and merge.Sort. -/
import Derived.Test.YtmdbcknlipahgaaDoorOwn3
import Derived.Deep.QuietTactic
import Derived.BigQuiet
import Derived.Lib.SliceRun
import Derived.Test.YtmdbcknlipahgaaDoorOwn2
import Derived.Shelf.SlSortCmp.NoneTotal
import Derived.Test.YtmdbcknlipahgaaDoorPSort
import Derived.Test.YtmdbcknlipahgaaDoorLay
import Derived.Test.YtmdbcknlipahgaaDoorPosts
namespace Go.Proofs.YtmdbcknlipahgaaDoor
open Go.RowKit
theorem inf_ml : (Tryd.prog.info? 103).map (fun i => (i.zero, i.size, i.bytes)) = some (some (.agg #[.int .i64 0, .int .i64 0]), 2, 16) := by kernel_rfl
set_option maxHeartbeats 1000000 in
set_option maxRecDepth 100000 in
theorem cloneM_ok (n c : Nat) (p : Option Addr) (xs : List Value) (w : World) (h : Sl w 2 (.slice p n c) n xs) (h1 : ∀ u ∈ xs, u.oneCell' = true) (hn : n ≤ 100000) :
    Calls Tryd.prog 78 #[.slice p n c] w fun e w' => ∃ p' c', e = .returned (.slice p' n c') ∧ w'.ownsRow w.heap.size 103 2 (.slice p' n c') n xs ∧ Below w.heap.size w w' := by
  rcases p with _ | ad
  · have hx : n = 0 ∧ c = 0 ∧ xs = [] := by
      obtain ⟨p', c', hp, h2, h3, h4, h5, h6⟩ := h
      cases hp
      have hc := h5 rfl
      subst hc
      have : n = 0 := by omega
      subst this
      exact ⟨rfl, rfl, List.eq_nil_of_length_eq_zero (by simpa using h4)⟩
    obtain ⟨rfl, rfl, rfl⟩ := hx
    have q22 : ∀ (w : World) (a : Option Addr) (n c n' c' : Nat), (binOp .eql 49 (.slice a n c) (.slice none n' c')).run Tryd.prog w = .ok (.bool a.isNone) w := fun w a n c n' c' => Lib.run_eql_slice_nil w _ _ a n c n' c' rfl
    go_enter Tryd.func78, Tryd.ntmps78
    go_wp2_with fail
    go_ret
    exact ⟨none, 0, rfl, World.ownsRow_nil _ _ _ _, Below.refl _ _⟩
  · have HS := Lib.hid h
    clear h
    have q22 : ∀ (w : World) (a : Option Addr) (n c n' c' : Nat), (binOp .eql 49 (.slice a n c) (.slice none n' c')).run Tryd.prog w = .ok (.bool a.isNone) w := fun w a n c n' c' => Lib.run_eql_slice_nil w _ _ a n c n' c' rfl
    go_enter Tryd.func78, Tryd.ntmps78
    go_wp2_with (at_builtin; refine wp_app (w0 := w) rfl _ _ _ rfl w.heap.size 103 rfl inf_ml rfl (by decide) rfl (World.ownsRow_made w #[] 0 (Nat.le_refl _) (Nat.zero_le _) rfl) rfl (HS.out.later ((Below.refl _ w).alloc (Nat.le_refl _) _)) h1 (by unfold maxLen; omega) (by omega) ((Below.refl _ w).alloc (Nat.le_refl _) _) (by simp) ?_; intro p1 c1 w1 hown hb hsz _ _)
    go_ret
    rw [Nat.zero_add, List.nil_append] at hown
    exact ⟨p1, c1, rfl, hown, hb⟩
end Go.Proofs.YtmdbcknlipahgaaDoor
namespace Go.Proofs.YtmdbcknlipahgaaDoor
open Go.RowKit Go.Sort Go.Proofs
section
variable {α : Type} [Inhabited α]
theorem flatMap_at (enc : α → List Value) (k : Nat) (hk : ∀ x, (enc x).length = k) (hk0 : 0 < k) : ∀ (l : List α) (t : Nat), t < l.length * k → (l.flatMap enc)[t]? = (enc (l.toArray)[t / k]!)[t % k]? := by
  intro l
  induction l with
  | nil => intro t h; simp at h
  | cons a l ih =>
    intro t h
    rw [List.flatMap_cons]
    by_cases ht : t < k
    · rw [List.getElem?_append_left (by rw [hk]; exact ht), Nat.div_eq_of_lt ht, Nat.mod_eq_of_lt ht]; rfl
    · obtain ⟨u, rfl⟩ : ∃ u, t = u + k := ⟨t - k, by omega⟩
      rw [List.getElem?_append_right (by rw [hk]; omega), hk, Nat.add_sub_cancel, ih u (by rw [List.length_cons, Nat.succ_mul] at h; omega), Nat.add_div_right _ hk0, Nat.add_mod_right]
      simp
theorem flatK_list (enc : α → List Value) (k : Nat) (hk : ∀ x, (enc x).length = k) (hk0 : 0 < k) (l : List α) : (flatK enc k l.toArray).toList = l.flatMap enc := by
  have hlen : ∀ l : List α, (l.flatMap enc).length = l.length * k := by
    intro l
    induction l with
    | nil => simp
    | cons a l ih => rw [List.flatMap_cons, List.length_append, hk, ih, List.length_cons, Nat.succ_mul]; omega
  apply List.ext_getElem?
  intro t
  by_cases ht : t < l.length * k
  · rw [flatMap_at enc k hk hk0 l t ht]
    have h1 : t < (flatK enc k l.toArray).size := by simp; exact ht
    rw [Array.getElem?_toList, Array.getElem?_eq_getElem h1]
    have h2 := get_flatK enc k l.toArray t (by simpa using ht)
    rw [getElem!_pos _ t h1] at h2
    rw [h2]
    have h3 : t % k < (enc (l.toArray)[t / k]!).length := by rw [hk]; exact Nat.mod_lt _ hk0
    rw [List.getElem?_eq_getElem h3, getElem!_pos (enc (l.toArray)[t / k]!) (t % k) h3]
  · rw [List.getElem?_eq_none (by simp; omega), List.getElem?_eq_none (by rw [hlen]; omega)]
theorem holdsK_of_own {w : World} {base : Nat} {E : TypeId} {g c n : Nat} {l : List α} (enc : α → List Value) (k : Nat) (hk : ∀ x, (enc x).length = k) (hk0 : 0 < k) (h : w.ownsRow base E k (.slice (some ⟨g, 0, none⟩) n c) n (l.flatMap enc)) : HoldsK enc k w g 0 l.toArray := by
  intro j hj
  have hf : w.frozen? ⟨g, 0 + j, none⟩ = false := by
    rcases h.2 with ⟨h1, _⟩ | ⟨g', cap, cur, h1, _, h2, _⟩
    · cases h1
    · cases h1
      simp [World.frozen?, h2]
  refine ⟨?_, hf⟩
  have hc := h.cells (g := g) rfl j ((flatK enc k l.toArray)[j]!) (by
    rw [← flatK_list enc k hk hk0 l, Array.getElem?_toList, Array.getElem?_eq_getElem hj, getElem!_pos _ j hj])
  rw [add_none] at hc
  exact hc
theorem own_sorted {w : World} {base : Nat} {E : TypeId} {g c n : Nat} {l d' : List α} (enc : α → List Value) (k : Nat) (hk : ∀ x, (enc x).length = k) (hk0 : 0 < k) (h : w.ownsRow base E k (.slice (some ⟨g, 0, none⟩) n c) n (l.flatMap enc)) (hlen : d'.length = l.length) (m : Nat) (os : Array Obj) :
    (sortWorldK enc k w g 0 m d'.toArray os).ownsRow base E k (.slice (some ⟨g, 0, none⟩) n c) n (d'.flatMap enc) ∧ w.grownBy (sortWorldK enc k w g 0 m d'.toArray os) (some g) := by
  have hfl : ∀ l : List α, (l.flatMap enc).length = l.length * k := by
    intro l
    induction l with
    | nil => simp
    | cons a l ih => rw [List.flatMap_cons, List.length_append, hk, ih, List.length_cons, Nat.succ_mul]; omega
  have hn : l.length * k = n * k := by rw [← hfl l]; exact h.1
  rcases h.2 with ⟨h1, _⟩ | ⟨g', cap, cur, h1, hb, h2, h3, h4, h5, h6⟩
  · cases h1
  · cases h1
    have hg : g < w.heap.size := (Array.getElem?_eq_some_iff.1 h2).1
    have hF : (flatK enc k d'.toArray).size = n * k := by simp [hlen, hn]
    have hheap : (sortWorldK enc k w g 0 m d'.toArray os).heap[g]? = some (.cells (putCells id 0 (flatK enc k d'.toArray) cur) E (0, 0)) := by
      unfold sortWorldK grow putRowK putRow mapBlock
      show ((Array.modify w.heap g _) ++ os)[g]? = _
      rw [Array.getElem?_append_left (by simpa using hg), Array.getElem?_modify, if_pos rfl, h2]
      rfl
    constructor
    · refine ⟨by rw [hfl, hlen, hn], .inr ⟨g, c, _, rfl, hb, hheap, h3, h4, by simp [putCells]; exact h5, ?_⟩⟩
      rw [← flatK_list enc k hk hk0 d']
      have hcs : n * k ≤ cur.size := by rw [h5]; exact Nat.mul_le_mul_right _ h3
      apply List.ext_getElem?
      intro t
      by_cases ht : t < n * k
      · rw [List.getElem?_take_of_lt ht, Array.getElem?_toList, Array.getElem?_toList]
        unfold putCells
        rw [Array.getElem?_mapIdx, Array.getElem?_eq_getElem (show t < cur.size by omega), Array.getElem?_eq_getElem (show t < (flatK enc k d'.toArray).size by omega), Option.map_some, if_pos ⟨by omega, by omega⟩]
        rw [Nat.sub_zero, getElem!_pos _ t (by omega)]; rfl
      · rw [List.getElem?_eq_none (by rw [List.length_take]; omega), List.getElem?_eq_none (by rw [Array.length_toList, hF]; omega)]
    · refine ⟨rfl, rfl, rfl, ?_, ?_⟩
      · unfold sortWorldK grow putRowK putRow mapBlock
        show _ ≤ ((Array.modify w.heap g _) ++ os).size
        simp
      · intro b hb' hne
        unfold sortWorldK grow putRowK putRow mapBlock
        show ((Array.modify w.heap g _) ++ os)[b]? = _
        rw [Array.getElem?_append_left (by simpa using hb'), Array.getElem?_modify, if_neg (fun e => hne (by rw [e]))]
end
end Go.Proofs.YtmdbcknlipahgaaDoor
namespace Go.Proofs.YtmdbcknlipahgaaDoor
open Go.RowKit Go.Sort Go.Proofs Go.Shelf
theorem mcs_enc (l : List (Nat × Nat)) : mcs l = l.flatMap encM := rfl
theorem ordM_enters : ∀ args w, (callFunc 80 args).run Tryd.prog w = .ok (.enter 80 args) w := enters_of Tryd.func80 (by kernel_rfl) rfl
theorem sfM_ok (p : Option Addr) (n c base : Nat) (l : List (Nat × Nat)) (W : World) (hown : W.ownsRow base 103 2 (.slice p n c) n (mcs l)) (hn : n ≤ 100000) (hbase : base ≤ W.heap.size) :
    Calls Tryd.prog 79 #[.slice p n c, .func (.func 80) #[] #[]] W fun e w' => e = .returned (.tuple #[]) ∧ w'.ownsRow base 103 2 (.slice p n c) n (mcs (srt cfM l)) ∧ Below base W w' := by
  have hln : n = l.length := by have := hown.1; rw [mcs_len] at this; omega
  by_cases h0 : n = 0
  · subst h0
    obtain rfl : l = [] := List.eq_nil_of_length_eq_zero hln.symm
    have hcon := AnyF.slices_SortFunc_none laySortM p c (.func (.func 80) #[] #[]) W
    change Calls Tryd.prog 79 _ _ _ at hcon
    refine hcon.mono ?_
    rintro e w' ⟨rfl, rfl⟩
    exact ⟨rfl, by rw [show srt cfM [] = [] from by unfold srt; exact List.mergeSort_nil]; exact hown, Below.refl _ _⟩
  · have hown' := hown
    rcases hown'.2 with ⟨_, h⟩ | ⟨g, cap, cur, h1, hb, h2, _⟩
    · exact absurd h h0
    · cases h1
      have hg : g < W.heap.size := (Array.getElem?_eq_some_iff.1 h2).1
      rw [mcs_enc] at hown
      have hH := holdsK_of_own encM 2 (fun _ => rfl) (by decide) hown
      have hcon := AnyQ.slices_SortFunc_total laySortM 2 Tryd.isAgg103 Tryd.sizeOf103 encM (fun _ => rfl) (fun x v hv => by simp [encM] at hv; rcases hv with rfl | rfl <;> rfl) cfM swoM 80 #[] g 0 c l.toArray W ordM_enters (ordM_lays g 0 l.toArray.size W) hH hg (by simp; omega) totM
      change Calls Tryd.prog 79 _ _ _ at hcon
      rw [show l.toArray.size = n from by simp; exact hln.symm] at hcon
      refine hcon.mono ?_
      rintro e w' ⟨rfl, m, os, rfl⟩
      obtain ⟨h3, h4⟩ := own_sorted (d' := srt cfM l) encM 2 (fun _ => rfl) (by decide) hown (srt_len l) m os
      exact ⟨rfl, h3, (Below.refl base W).grown h4 hbase (fun k hk => by cases hk; exact hb)⟩
set_option maxHeartbeats 1000000 in
set_option maxRecDepth 100000 in
theorem sortM_ok (n c : Nat) (p : Option Addr) (l : List (Nat × Nat)) (w : World) (h : Sl w 2 (.slice p n c) n (mcs l)) (hn : n ≤ 5000) :
    Calls Tryd.prog 61 #[.slice p n c] w fun e w' => ∃ p' c', e = .returned (.tuple #[.slice p' n c', .int .i64 0]) ∧ w'.ownsRow w.heap.size 103 2 (.slice p' n c') n (mcs (srt cfM l)) ∧ Below w.heap.size w w' := by
  have HCL := Lib.hid (cloneM_ok n c p (mcs l) w h (mcs_one l) (by omega))
  clear h
  have hd : decide ((5000 : Int) < (n : Int)) = false := by simp; omega
  go_enter Tryd.func61, Tryd.ntmps61
  go_wp2_with fail
  refine HCL.out.mono ?_; rintro e w1 ⟨p1, c1, rfl, ho1, hb1⟩
  go_wp2_with fail
  refine (sfM_ok p1 n c1 w.heap.size l w1 ho1 (by omega) hb1.size).mono ?_; rintro e w2 ⟨rfl, ho2, hb2⟩
  go_wp2_with fail
  go_ret2
  exact ⟨p1, c1, rfl, ho2, hb1.trans hb2⟩
end Go.Proofs.YtmdbcknlipahgaaDoor
