/- slices.SortFunc at mail in order, and merge.Sort. -/
import Derived.Test.YtcaolnpkpialdaaSortOwn
import Derived.Test.YtcaolnpkpialdaaPSort
import Derived.Test.YtcaolnpkpialdaaLay
import Derived.Test.YtcaolnpkpialdaaCloneM
import Derived.Test.YtcaolnpkpialdaaPosts
namespace Go.Proofs.Ytcaolnpkpialdaa
open Go.RowKit Go.Sort Go.Proofs Go.Shelf
theorem mcs_enc (l : List (Nat × Nat)) : mcs l = l.flatMap encM := rfl
theorem ordM_enters : ∀ args w, (callFunc 44 args).run Try.prog w = .ok (.enter 44 args) w := enters_of Try.func44 (by kernel_rfl) rfl
theorem sfM_ok (p : Option Addr) (n c base : Nat) (l : List (Nat × Nat)) (W : World) (hown : W.ownsRow base 109 2 (.slice p n c) n (mcs l)) (hn : n ≤ 100000) (hbase : base ≤ W.heap.size) :
    Calls Try.prog 70 #[.slice p n c, .func (.func 44) #[] #[]] W fun e w' => e = .returned (.tuple #[]) ∧ w'.ownsRow base 109 2 (.slice p n c) n (mcs (srt cfM l)) ∧ Below base W w' := by
  have hln : n = l.length := by have := hown.1; rw [mcs_len] at this; omega
  by_cases h0 : n = 0
  · subst h0
    obtain rfl : l = [] := List.eq_nil_of_length_eq_zero hln.symm
    have hcon := AnyF.slices_SortFunc_none laySortM p c (.func (.func 44) #[] #[]) W
    change Calls Try.prog 70 _ _ _ at hcon
    refine hcon.mono ?_
    rintro e w' ⟨rfl, rfl⟩
    exact ⟨rfl, by rw [show srt cfM [] = [] from by unfold srt; exact List.mergeSort_nil]; exact hown, Below.refl _ _⟩
  · have hown' := hown
    rcases hown'.2 with ⟨_, h⟩ | ⟨g, cap, cur, h1, hb, h2, _⟩
    · exact absurd h h0
    · cases h1
      have hg : g < W.heap.size := (Array.getElem?_eq_some_iff.1 h2).1
      rw [mcs_enc] at hown
      have hH := holdsK_of_own encM 2 (fun _ => rfl) (by decide) hown
      have hcon := AnyQ.slices_SortFunc_total laySortM 2 Try.isAgg109 Try.sizeOf109 encM (fun _ => rfl) (fun x v hv => by simp [encM] at hv; rcases hv with rfl | rfl <;> rfl) cfM swoM 44 #[] g 0 c l.toArray W ordM_enters (ordM_lays g 0 l.toArray.size W) hH hg (by simp; omega) totM
      change Calls Try.prog 70 _ _ _ at hcon
      rw [show l.toArray.size = n from by simp; exact hln.symm] at hcon
      refine hcon.mono ?_
      rintro e w' ⟨rfl, m, os, rfl⟩
      obtain ⟨h3, h4⟩ := own_sorted (d' := srt cfM l) encM 2 (fun _ => rfl) (by decide) hown (srt_len l) m os
      exact ⟨rfl, h3, (Below.refl base W).grown h4 hbase (fun k hk => by cases hk; exact hb)⟩
set_option maxHeartbeats 1000000 in
set_option maxRecDepth 100000 in
theorem sortM_ok (n c : Nat) (p : Option Addr) (l : List (Nat × Nat)) (w : World) (h : Sl w 2 (.slice p n c) n (mcs l)) (hn : n ≤ 5000) :
    Calls Try.prog 42 #[.slice p n c] w fun e w' => ∃ p' c', e = .returned (.tuple #[.slice p' n c', .int .i64 0]) ∧ w'.ownsRow w.heap.size 109 2 (.slice p' n c') n (mcs (srt cfM l)) ∧ Below w.heap.size w w' := by
  have HCL := Lib.hid (cloneM_ok n c p (mcs l) w h (mcs_one l) (by omega))
  clear h
  have hd : decide ((5000 : Int) < (n : Int)) = false := by simp; omega
  go_enter Try.func42, Try.ntmps42
  go_wp2_with fail
  refine HCL.out.mono ?_; rintro e w1 ⟨p1, c1, rfl, ho1, hb1⟩
  go_wp2_with fail
  refine (sfM_ok p1 n c1 w.heap.size l w1 ho1 (by omega) hb1.size).mono ?_; rintro e w2 ⟨rfl, ho2, hb2⟩
  go_wp2_with fail
  go_ret2
  exact ⟨p1, c1, rfl, ho2, hb1.trans hb2⟩
end Go.Proofs.Ytcaolnpkpialdaa
