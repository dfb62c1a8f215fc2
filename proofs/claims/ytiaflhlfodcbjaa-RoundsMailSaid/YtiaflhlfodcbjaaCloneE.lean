/- The walk of slices.Clone at edges. -/
import Derived.Test.YtiaflhlfodcbjaaOwn3
import Derived.Deep.QuietTactic
import Derived.BigQuiet
import Derived.Lib.SliceRun
namespace Go.Proofs.Ytiaflhlfodcbjaa
open Go.RowKit
theorem inf_edge : (Try.prog.info? 46).map (fun i => (i.zero, i.size, i.bytes)) = some (some (.agg #[.int .i64 0, .int .i64 0, .int .i64 0]), 3, 24) := by kernel_rfl
set_option maxHeartbeats 1000000 in
set_option maxRecDepth 100000 in
theorem cloneE_ok (n c : Nat) (p : Option Addr) (xs : List Value) (w : World) (h : Sl w 3 (.slice p n c) n xs) (h1 : ∀ u ∈ xs, u.oneCell' = true) (hn : n ≤ 100000) :
    Calls Try.prog 65 #[.slice p n c] w fun e w' => ∃ p' c', e = .returned (.slice p' n c') ∧ w'.ownsRow w.heap.size 46 3 (.slice p' n c') n xs ∧ Below w.heap.size w w' := by
  rcases p with _ | ad
  · have hx : n = 0 ∧ c = 0 ∧ xs = [] := by
      obtain ⟨p', c', hp, h2, h3, h4, h5, h6⟩ := h
      cases hp
      have hc := h5 rfl
      subst hc
      have : n = 0 := by omega
      subst this
      exact ⟨rfl, rfl, List.eq_nil_of_length_eq_zero (by simpa using h4)⟩
    obtain ⟨rfl, rfl, rfl⟩ := hx
    have q22 : ∀ (w : World) (a : Option Addr) (n c n' c' : Nat), (binOp .eql 23 (.slice a n c) (.slice none n' c')).run Try.prog w = .ok (.bool a.isNone) w := fun w a n c n' c' => Lib.run_eql_slice_nil w _ _ a n c n' c' rfl
    go_enter Try.func65, Try.ntmps65
    go_wp2_with fail
    go_ret
    exact ⟨none, 0, rfl, World.ownsRow_nil _ _ _ _, Below.refl _ _⟩
  · have HS := Lib.hid h
    clear h
    have q22 : ∀ (w : World) (a : Option Addr) (n c n' c' : Nat), (binOp .eql 23 (.slice a n c) (.slice none n' c')).run Try.prog w = .ok (.bool a.isNone) w := fun w a n c n' c' => Lib.run_eql_slice_nil w _ _ a n c n' c' rfl
    go_enter Try.func65, Try.ntmps65
    go_wp2_with (at_builtin; refine wp_app (w0 := w) rfl _ _ _ rfl w.heap.size 46 rfl inf_edge rfl (by decide) rfl (World.ownsRow_made w #[] 0 (Nat.le_refl _) (Nat.zero_le _) rfl) rfl (HS.out.later ((Below.refl _ w).alloc (Nat.le_refl _) _)) h1 (by unfold maxLen; omega) (by omega) ((Below.refl _ w).alloc (Nat.le_refl _) _) (by simp) ?_; intro p1 c1 w1 hown hb hsz _ _)
    go_ret
    rw [Nat.zero_add, List.nil_append] at hown
    exact ⟨p1, c1, rfl, hown, hb⟩
end Go.Proofs.Ytiaflhlfodcbjaa
