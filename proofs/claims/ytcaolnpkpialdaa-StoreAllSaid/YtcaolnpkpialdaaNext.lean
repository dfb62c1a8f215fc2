/- The walk of (*varint.reader).next: the next number of what is left. -/
import Derived.Test.YtcaolnpkpialdaaGet
import Derived.Test.YtcaolnpkpialdaaOwn2
import Derived.Test.YtcaolnpkpialdaaPGaps
import Derived.Deep.QuietTactic
import Derived.BigQuiet
namespace Go.Proofs.Ytcaolnpkpialdaa
open Go.RowKit
theorem quiet_same {P : Program} {f : FuncId} {args : Array Value} {w : World} {n : Nat} {v : Value}
    (h : Calls P f args (w.drewN n) fun e w' => e = .returned v ∧ w.drewN n = w') : Calls P f args (w.drewN n) fun e w'' => e = .returned v ∧ ∃ m, w'' = w.drewN m :=
  h.mono fun _ _ ⟨he, hm⟩ => ⟨he, n, hm.symm⟩
theorem IsB.drewN {w : World} {v : Value} {l : List Nat} (h : IsB w v l) (n : Nat) : IsB (w.drewN n) v l := h
/-- what is left of a slice, as the model cuts it -/
theorem IsB.cut {w : World} {b off c n : Nat} {l : List Nat} (h : IsB w (.slice (some ⟨b, off, none⟩) n c) l) {k : Nat} (hk : k ≤ n) : IsB w (.slice (if c = k then some ⟨b, off, none⟩ else some ⟨b, off + k, none⟩) (n - k) (c - k)) (l.drop k) := by
  split
  · rename_i hck
    obtain ⟨rfl, h1, h2⟩ := h.lens
    have e : l.length - k = 0 := by omega
    have e2 : l.drop k = [] := List.drop_eq_nil_of_le (by omega)
    rw [e, e2]
    exact ⟨⟨_, _, rfl, Nat.zero_le _, by unfold maxLen; omega, rfl, (fun h => by cases h), .inl rfl⟩, fun x hx => by cases hx⟩
  · exact h.drop hk
set_option maxHeartbeats 1000000 in
set_option maxRecDepth 100000 in
theorem next_any (g b off c n used : Nat) (l : List Nat) (w : World) (hg : w.heap[g]? = some (.cells #[.slice (some ⟨b, off, none⟩) n c, .int .i64 (used : Int)] 190 (0, 0))) (hl : IsB w (.slice (some ⟨b, off, none⟩) n c) l) (hu : used ≤ n) :
    Calls Try.prog 92 #[.pointer (some ⟨g, 0, none⟩)] w fun e w' => e = .returned (.tuple #[.int .u64 ((getL (l.drop used)).1 : Int), .int .i64 ((getL (l.drop used)).2.2 : Int)]) ∧
      w'.heap[g]? = some (.cells #[.slice (some ⟨b, off, none⟩) n c, .int .i64 ((used + (getL (l.drop used)).2.1 : Nat) : Int)] 190 (0, 0)) ∧ w.grownBy w' (some g) := by
  obtain ⟨hn, hc1, hc2⟩ := hl.lens
  have HL := Lib.hid (hl.cut hu)
  have hB : AllB (l.drop used) := fun x hx => hl.2 x (List.mem_of_mem_drop hx)
  have hk10 : (getL (l.drop used)).2.1 ≤ 10 ∧ used + (getL (l.drop used)).2.1 ≤ n := by
    by_cases he : (getL (l.drop used)).2.2 = 0
    · have := getL_bd hB he
      rw [List.length_drop] at this
      omega
    · have := (getF_bad (l.drop used) 0 0 he).2
      unfold getL
      omega
  have HN := Lib.hid hn
  have h0 : w.cell? ⟨g, 0, none⟩ = some (.slice (some ⟨b, off, none⟩) n c) := by rw [cell_of_row w g 0 _ _ _ hg]; rfl
  have h1 : w.cell? ⟨g, 1, none⟩ = some (.int .i64 (used : Int)) := by rw [cell_of_row w g 1 _ _ _ hg]; rfl
  have hf : w.frozen? ⟨g, 1, none⟩ = false := frozen_of_row w g 1 _ _ hg
  have HGG := Lib.hid hg
  have hu0 : (0 : Int) ≤ (used : Int) := by omega
  have hu1 : (used : Int) ≤ (n : Int) := by omega
  have hu2 : (used : Int) ≤ (c : Int) := by omega
  have hn63 : n ≤ 9223372036854775807 := by omega
  have hn0 : (0 : Int) ≤ (n : Int) := by omega
  have hnc : (n : Int) ≤ (c : Int) := by omega
  obtain ⟨hk1, hk2⟩ := hk10
  clear hl hB hg hn
  by_cases hcu : c = used
  · have HL1 := HL.out
    rw [if_pos hcu, show c - used = 0 by omega] at HL1
    have HL2 := Lib.hid HL1
    clear HL1 HL
    generalize l.drop used = r at *
    go_enter Try.func92, Try.ntmps92
    go_wp2_with fail
    go_quiet ((go_at_call 33; exact quiet_same (get_any _ _ _ r _ (HL2.out.drewN _))))
    go_wp2_with fail
    go_ret2
    exact ⟨rfl, (heap_setCell_same w g 1 _ _ (.int .i64 ((used + (getL r).2.1 : Nat) : Int)) HGG.out).trans rfl, grown_drewN (grown_setCell w g 1 _) nq⟩
  · have HL1 := HL.out
    rw [if_neg hcu] at HL1
    have HL2 := Lib.hid HL1
    clear HL1 HL
    generalize l.drop used = r at *
    go_enter Try.func92, Try.ntmps92
    go_wp2_with fail
    go_quiet ((go_at_call 33; exact quiet_same (get_any _ _ _ r _ (HL2.out.drewN _))))
    go_wp2_with fail
    go_ret2
    exact ⟨rfl, (heap_setCell_same w g 1 _ _ (.int .i64 ((used + (getL r).2.1 : Nat) : Int)) HGG.out).trans rfl, grown_drewN (grown_setCell w g 1 _) nq⟩
theorem isB_empty (w : World) (p : Option Addr) (c : Nat) (hc : c ≤ 9223372036854775807) (hp : p = none → c = 0) : IsB w (.slice p 0 c) [] :=
  ⟨⟨p, c, rfl, Nat.zero_le _, by unfold maxLen; omega, rfl, hp, .inl rfl⟩, fun x hx => by cases hx⟩
theorem add_zero_addr (a : Addr) : a.add 0 = a := by cases a; simp [Addr.add]
set_option maxHeartbeats 1000000 in
set_option maxRecDepth 100000 in
theorem next_empty (g c : Nat) (p : Option Addr) (w : World) (hg : w.heap[g]? = some (.cells #[.slice p 0 c, .int .i64 0] 190 (0, 0))) (hc : c ≤ 9223372036854775807) (hp : p = none → c = 0) :
    Calls Try.prog 92 #[.pointer (some ⟨g, 0, none⟩)] w fun e w' => e = .returned (.tuple #[.int .u64 0, .int .i64 4]) ∧ w.grownBy w' (some g) := by
  have h0 : w.cell? ⟨g, 0, none⟩ = some (.slice p 0 c) := by rw [cell_of_row w g 0 _ _ _ hg]; rfl
  have h1 : w.cell? ⟨g, 1, none⟩ = some (.int .i64 0) := by rw [cell_of_row w g 1 _ _ _ hg]; rfl
  have hf : w.frozen? ⟨g, 1, none⟩ = false := frozen_of_row w g 1 _ _ hg
  have HE := Lib.hid (isB_empty w p c hc hp)
  clear hg hc
  have hge : getL [] = (0, 0, 4) := rfl
  rcases p with _ | ad
  · obtain rfl : c = 0 := hp rfl
    go_enter Try.func92, Try.ntmps92
    go_wp2_with fail
    go_quiet ((go_at_call 33; exact quiet_same (get_any _ _ _ [] _ (HE.out.drewN _))))
    go_wp2_with fail
    go_ret2
    exact ⟨rfl, grown_drewN (grown_setCell w g 1 _) nq⟩
  · have ha := add_zero_addr ad
    by_cases hc0 : c = 0
    · subst hc0
      go_enter Try.func92, Try.ntmps92
      go_wp2_with fail
      go_quiet ((go_at_call 33; exact quiet_same (get_any _ _ _ [] _ (HE.out.drewN _))))
      go_wp2_with fail
      go_ret2
      exact ⟨rfl, grown_drewN (grown_setCell w g 1 _) nq⟩
    · go_enter Try.func92, Try.ntmps92
      go_wp2_with fail
      go_quiet ((go_at_call 33; exact quiet_same (get_any _ _ _ [] _ (HE.out.drewN _))))
      go_wp2_with fail
      go_ret2
      exact ⟨rfl, grown_drewN (grown_setCell w g 1 _) nq⟩
end Go.Proofs.Ytcaolnpkpialdaa
