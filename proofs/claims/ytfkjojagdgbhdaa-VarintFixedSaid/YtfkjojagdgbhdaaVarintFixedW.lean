/- The walk of the law VarintFixed. -/
import Derived.Test.YtfkjojagdgbhdaaPut
import Derived.Test.YtfkjojagdgbhdaaGet
import Derived.Test.YtfkjojagdgbhdaaSome
import Derived.Deep.RegionHeld3
namespace Go.Proofs.Ytfkjojagdgbhdaa
open Go.RowKit
theorem getL_bd {l : List Nat} (hb : AllB l) (h : (getL l).2.2 = 0) : (getL l).1 < U64 ∧ 1 ≤ (getL l).2.1 ∧ (getL l).2.1 ≤ l.length ∧ (getL l).2.1 ≤ 10 := by
  have := getF_bd l 0 0 hb (by omega) (by decide) h
  unfold getL
  omega
set_option maxHeartbeats 1000000 in
set_option maxRecDepth 100000 in
theorem varintFixed_walk (w : World) (v : Value) (l : List Nat) (hl : IsB w v l) :
    Calls Try.prog 8 #[v] w fun e w' => e = .returned (.bool true) ∧ Below w.heap.size w w' := by
  obtain ⟨p0, c0, rfl⟩ := hl.val
  have HL := Lib.hid hl
  have htk : (l.take 20).length ≤ 20 := List.length_take_le _ _
  have HT := Lib.hid (show AllB (l.take 20) from fun x hx => hl.2 x (List.mem_of_mem_take hx))
  clear hl
  go_enter Try.func8, Try.ntmps8
  go_wp2_with fail
  refine (some_any p0 c0 _ l 20 w HL.out (by omega)).mono ?_; rintro e w1 ⟨p1, c1, rfl, ho1, hb1⟩
  have HI := Lib.hid (IsB.of_own ho1 HT.out)
  generalize l.take 20 = t at *
  go_wp2_with fail
  refine (get_any p1 c1 _ t w1 HI.out).mono ?_; rintro e w5 ⟨rfl, rfl⟩
  by_cases he : (getL t).2.2 = 0
  · obtain ⟨b1, b2, b3, b4⟩ := getL_bd HT.out he
    obtain ⟨f1, f2⟩ := getL_fixed HT.out he
    rw [he]
    generalize (getL t).1 = n at *
    generalize (getL t).2.1 = k at *
    have HF1 := Lib.hid f1
    have HF2 := Lib.hid f2
    have HN := Lib.hid b1
    have htk2 : (t.take k).length = k := by rw [List.length_take]; omega
    have HK := Lib.hid htk2
    clear f1 f2 b1 he htk2
    have hd1 : decide ((1 : Int) ≤ (k : Int)) = true := by simp <;> omega
    have hd2 : decide ((k : Int) ≤ (t.length : Int)) = true := by simp <;> omega
    have hd3 : decide (k ≤ t.length) = true := by simp <;> omega
    have hd4 : decide (1 ≤ k) = true := by simp <;> omega
    go_wp2_with fail
    have hcc : (k : Int) ≤ (c1 : Int) := by have := HI.out.lens; omega
    have hk0 : (0 : Int) ≤ (k : Int) := by omega
    have HTK := Lib.hid (HI.out.take b3)
    have HPB := Lib.hid (put_bytes n n (Nat.le_refl _))
    go_region_held3 (fun w' => IsB w' (.slice p1 k c1) (t.take k)) (first | exact HTK.out | exact HTK.out.later (below_undrew hb2)) (first
      | (go_at_call 17; refine (put_any n _ HN.out).mono ?_; rintro e w2 ⟨p2, c2, rfl, ho2, hb2⟩)
      | (go_at_call 23; refine (sameBytes_any p2 p1 c2 c1 _ _ (put n) (t.take k) _ (IsB.of_own ho2 HPB.out) (HTK.out.later (below_undrew hb2))).mono ?_; rintro e w3 ⟨rfl, rfl⟩))
    go_wp2_with fail
    go_ret
    have hd : decide (put n = t.take k) = true := decide_eq_true HF1.out
    exact ⟨congrArg (fun z => Ending.returned (.bool z)) hd, hb1.trans ((below_undrew hb2).mono hb1.size)⟩
  · obtain ⟨b1, b2⟩ := getF_bad t 0 0 he
    have b1' : (getL t).1 = 0 := b1
    have b2' : (getL t).2.1 = 0 := b2
    rw [b1', b2']
    have hz : (((getL t).2.2 : Int) == 0) = false := by simp <;> omega
    have hz2 : (((getL t).2.2 : Int) != 0) = true := by simp <;> omega
    generalize (getL t).2.2 = e at *
    clear b1 b2 b1' b2' he
    go_wp2_with fail
    go_ret
    exact ⟨rfl, hb1⟩
end Go.Proofs.Ytfkjojagdgbhdaa
