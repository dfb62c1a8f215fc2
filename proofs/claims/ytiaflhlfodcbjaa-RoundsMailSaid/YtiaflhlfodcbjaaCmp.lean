/- The walks of cmp.Compare and cmp.Or at integers. -/
import Derived.Test.YtiaflhlfodcbjaaOwn3
import Derived.Deep.LoopGhost
import Derived.Deep.QuietTactic
import Derived.BigQuiet
import Derived.Lib.Small
namespace Go.Proofs.Ytiaflhlfodcbjaa
open Go.RowKit
set_option maxHeartbeats 400000 in
set_option maxRecDepth 100000 in
theorem cmp_any (x y : Int) (w : World) : Calls Try.prog 76 #[.int .i64 x, .int .i64 y] w fun e w' => e = .returned (.int .i64 (Lib.compareInt x y)) ∧ w = w' := by
  have HN := Lib.hid (fun (z : Int) (W : World) => (show Calls Try.prog 68 #[.int .i64 z] W fun e w' => e = .returned (.bool false) ∧ W = w' by
    have hz : (z != z) = false := by simp
    go_enter Try.func68, Try.ntmps68
    go_wp2_with fail
    go_ret
    exact ⟨rfl, rfl⟩))
  unfold Lib.compareInt
  by_cases h1 : x < y
  · rw [if_pos h1]
    have hd : decide (x < y) = true := by simp [h1]
    go_enter Try.func76, Try.ntmps76
    go_wp2_with (go_at_call 68; refine (HN.out _ _).mono ?_; rintro e w' ⟨rfl, rfl⟩)
    go_ret
    exact ⟨rfl, rfl⟩
  · rw [if_neg h1]
    have hd : decide (x < y) = false := by simp; omega
    by_cases h2 : x > y
    · rw [if_pos h2]
      have hd2 : decide (y < x) = true := by simp; omega
      go_enter Try.func76, Try.ntmps76
      go_wp2_with (go_at_call 68; refine (HN.out _ _).mono ?_; rintro e w' ⟨rfl, rfl⟩)
      go_ret
      exact ⟨rfl, rfl⟩
    · rw [if_neg h2]
      have hd2 : decide (y < x) = false := by simp; omega
      go_enter Try.func76, Try.ntmps76
      go_wp2_with (go_at_call 68; refine (HN.out _ _).mono ?_; rintro e w' ⟨rfl, rfl⟩)
      go_ret
      exact ⟨rfl, rfl⟩
/-- the first number that is not 0 -/
def orL : List Int → Int
  | [] => 0
  | a :: l => if a = 0 then orL l else a
set_option maxHeartbeats 1000000 in
set_option maxRecDepth 100000 in
theorem or_any (g n : Nat) (l : List Int) (w : World) (hn : n = l.length) (hn2 : n ≤ 1000) (hc : ∀ i a, l[i]? = some a → w.cell? ⟨g, i, none⟩ = some (.int .i64 a)) : Calls Try.prog 75 #[.slice (some ⟨g, 0, none⟩) n n] w fun e w' => e = .returned (.int .i64 (orL l)) ∧ w = w' := by
  have HC := Lib.hid hc
  have HN := Lib.hid hn
  clear hc hn
  go_enter Try.func75, Try.ntmps75
  go_wp2_with fail
  go_loopg [8] n (fun gk v8 wr => ∃ k : Nat, v8 = .int .i64 (k : Int) ∧ k + gk = n ∧ Hid (orL l = orL (l.drop k)) ∧ w = wr)
  case atStart => exact ⟨0, rfl, by omega, Lib.hid rfl, rfl⟩
  case round =>
    obtain ⟨k, rfl, hgk, HO, rfl⟩ := hrel
    have HGK := Lib.hid hgk
    have hk : k ≤ n := by omega
    clear hgk
    by_cases hlt : k < n
    · have hkl : k < l.length := by have := HN.out; omega
      have hcell := HC.out k _ (List.getElem?_eq_getElem hkl)
      have hdr := List.drop_eq_getElem_cons hkl
      generalize l[k] = a at hcell hdr
      have hk0 : (0 : Int) ≤ (k : Int) := by omega
      have hkn : (k : Int) < (n : Int) := by omega
      have hd1 : decide ((k : Int) < (n : Int)) = true := by simp; omega
      have hd2 : decide (k < n) = true := by simp; omega
      have HD := Lib.hid hdr
      clear hdr
      by_cases ha : a = 0
      · subst ha
        go_wp2_with fail
        go_roundg (n - (k + 1))
        case measure => have := HGK.out; omega
        case rel => exact ⟨k + 1, by go_num, by omega, Lib.hid (by rw [HO.out, HD.out]; rfl), rfl⟩
      · have hb : (a != 0) = true := by simp; exact ha
        go_wp2_with fail
        go_ret
        exact ⟨by rw [HO.out, HD.out]; unfold orL; rw [if_neg ha]; rfl, rfl⟩
    · have hd1 : decide ((k : Int) < (n : Int)) = false := by simp; omega
      have hd2 : decide (k < n) = false := by simp; omega
      go_wp2_with fail
      go_ret
      exact ⟨by rw [HO.out, List.drop_eq_nil_of_le (by have := HN.out; omega)]; rfl, rfl⟩
end Go.Proofs.Ytiaflhlfodcbjaa
