/- The walks of the small functions of link. -/
import Derived.Test.YtmadpjmlcooinaaOwn3
import Derived.Deep.QuietTactic
import Derived.BigQuiet
import Derived.Lib.SliceRun
namespace Go.Proofs.Ytmadpjmlcooinaa
open Go.RowKit
/-- a sender as a value -/
def sndV (ep ba : Nat) (v : Value) : Value := .agg #[.int .i64 (ep : Int), .int .i64 (ba : Int), v]
theorem inf_mail' : (Try.prog.info? 41).map (fun i => (i.zero, i.size, i.bytes)) = some (some (.agg #[.int .i64 0, .int .i64 0]), 2, 16) := by kernel_rfl
set_option maxHeartbeats 1000000 in
set_option maxRecDepth 100000 in
theorem ends_ok (a b : Nat) (w : World) (ha : a ≤ 1099511627776) (hb : b ≤ 1099511627776) :
    Calls Try.prog 35 #[.int .i64 (a : Int), .int .i64 (b : Int)] w fun e w' => e = .returned (.bool true) ∧ w = w' := by
  have h1 : decide ((0 : Int) ≤ (a : Int)) = true := by simp
  have h2 : decide ((a : Int) ≤ 1099511627776) = true := by simp; omega
  have h3 : decide ((0 : Int) ≤ (b : Int)) = true := by simp
  have h4 : decide ((b : Int) ≤ 1099511627776) = true := by simp; omega
  go_enter Try.func35, Try.ntmps35
  go_wp2_with fail
  go_ret
  exact ⟨rfl, rfl⟩
set_option maxHeartbeats 1000000 in
set_option maxRecDepth 100000 in
theorem sender_ok (ep ba n c : Nat) (p : Option Addr) (w : World) (he : ep ≤ 1099511627776) (hb : ba ≤ 1099511627776) (hn : n ≤ 5000) :
    Calls Try.prog 36 #[sndV ep ba (.slice p n c)] w fun e w' => e = .returned (.bool true) ∧ Below w.heap.size w w' := by
  unfold sndV
  have HE := Lib.hid (fun W => ends_ok ep ba W he hb)
  have h1 : decide ((n : Int) ≤ 5000) = true := by simp; omega
  go_enter Try.func36, Try.ntmps36
  go_wp2_with (go_at_call 35; refine (HE.out _).mono ?_; rintro e w' ⟨rfl, rfl⟩)
  go_ret
  exact ⟨rfl, (Below.refl _ _).alloc (Nat.le_refl _) _⟩
set_option maxHeartbeats 1000000 in
set_option maxRecDepth 100000 in
theorem flying_ok (ep ba n c : Nat) (p : Option Addr) (w : World) :
    Calls Try.prog 38 #[sndV ep ba (.slice p n c)] w fun e w' => e = .returned (.int .i64 ((min n 4 : Nat) : Int)) ∧ Below w.heap.size w w' := by
  unfold sndV
  go_enter Try.func38, Try.ntmps38
  go_wp2_with fail
  · go_ret
    exact ⟨congrArg (fun z => Ending.returned (.int .i64 z)) (by omega), (Below.refl _ _).alloc (Nat.le_refl _) _⟩
  · go_ret
    exact ⟨congrArg (fun z => Ending.returned (.int .i64 z)) (by omega), (Below.refl _ _).alloc (Nat.le_refl _) _⟩
set_option maxHeartbeats 1000000 in
set_option maxRecDepth 100000 in
theorem clone_ok (n c : Nat) (p : Option Addr) (xs : List Value) (w : World) (h : Sl w 2 (.slice p n c) n xs) (h1 : ∀ u ∈ xs, u.oneCell' = true) (hn : n ≤ 100000) :
    Calls Try.prog 37 #[.slice p n c] w fun e w' => ∃ p' c', e = .returned (.slice p' n c') ∧ w'.ownsRow w.heap.size 41 2 (.slice p' n c') n xs ∧ Below w.heap.size w w' := by
  rcases p with _ | ad
  · have hx : n = 0 ∧ c = 0 ∧ xs = [] := by
      obtain ⟨p', c', hp, h2, h3, h4, h5, h6⟩ := h
      cases hp
      have hc := h5 rfl
      subst hc
      have : n = 0 := by omega
      subst this
      exact ⟨rfl, rfl, List.eq_nil_of_length_eq_zero (by simpa using h4)⟩
    obtain ⟨rfl, rfl, rfl⟩ := hx
    have q22 : ∀ (w : World) (a : Option Addr) (n c n' c' : Nat), (binOp .eql 24 (.slice a n c) (.slice none n' c')).run Try.prog w = .ok (.bool a.isNone) w := fun w a n c n' c' => Lib.run_eql_slice_nil w _ _ a n c n' c' rfl
    go_enter Try.func37, Try.ntmps37
    go_wp2_with fail
    go_ret
    exact ⟨none, 0, rfl, World.ownsRow_nil _ _ _ _, Below.refl _ _⟩
  · have HS := Lib.hid h
    clear h
    have q22 : ∀ (w : World) (a : Option Addr) (n c n' c' : Nat), (binOp .eql 24 (.slice a n c) (.slice none n' c')).run Try.prog w = .ok (.bool a.isNone) w := fun w a n c n' c' => Lib.run_eql_slice_nil w _ _ a n c n' c' rfl
    go_enter Try.func37, Try.ntmps37
    go_wp2_with (at_builtin; refine wp_app (w0 := w) rfl _ _ _ rfl w.heap.size 41 rfl inf_mail' rfl (by decide) rfl (World.ownsRow_made w #[] 0 (Nat.le_refl _) (Nat.zero_le _) rfl) rfl (HS.out.later ((Below.refl _ w).alloc (Nat.le_refl _) _)) h1 (by unfold maxLen; omega) (by omega) ((Below.refl _ w).alloc (Nat.le_refl _) _) (by simp) ?_; intro p1 c1 w1 hown hb hsz _ _)
    go_ret
    rw [Nat.zero_add, List.nil_append] at hown
    exact ⟨p1, c1, rfl, hown, hb⟩
end Go.Proofs.Ytmadpjmlcooinaa
