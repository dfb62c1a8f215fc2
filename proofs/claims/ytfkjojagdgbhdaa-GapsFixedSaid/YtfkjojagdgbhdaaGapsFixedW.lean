/- The walk of the law GapsFixed. -/
import Derived.Test.YtfkjojagdgbhdaaGapsBackW
namespace Go.Proofs.Ytfkjojagdgbhdaa
open Go.RowKit
set_option maxHeartbeats 1000000 in
set_option maxRecDepth 100000 in
theorem gapsFixed_walk (w : World) (v1 : Value) (l1 : List Nat) (hl1 : IsB w v1 l1) :
    Calls Try.prog 11 #[v1] w fun e w' => e = .returned (.bool true) ∧ Below w.heap.size w w' := by
  obtain ⟨p1, c1, rfl⟩ := hl1.val
  have HL1 := Lib.hid hl1
  have hT : (l1.take 200).length ≤ 200 := List.length_take_le _ _
  have HT := Lib.hid (show AllB (l1.take 200) from fun x hx => hl1.2 x (List.mem_of_mem_take hx))
  clear hl1
  go_enter Try.func11, Try.ntmps11
  go_wp2_with fail
  refine (some_any p1 c1 _ l1 200 w HL1.out (by omega)).mono ?_; rintro e w1 ⟨q1, d1, rfl, ho1, hb1⟩
  have HI1 := Lib.hid (IsB.of_own ho1 HT.out)
  generalize l1.take 200 = b at *
  go_wp2_with fail
  refine (ungap_any q1 d1 _ b w1 HI1.out).mono ?_; rintro e w2 ⟨q2, d2, rfl, ho2, hb2⟩
  obtain ⟨hb2', hz2⟩ := below_step hb1 hb1.size hb2
  have HI2 := Lib.hid (HI1.out.later hb2)
  have hfx := fun h => ungapL_fixed HT.out h
  have hbad := fun h => ungapL_bad (b := b) h
  have HFX := Lib.hid hfx
  have HBAD := Lib.hid hbad
  clear hfx hbad
  generalize hU : ungapL b = U at *
  obtain ⟨x, k, e⟩ := U
  have HU := Lib.hid hU
  clear hU
  dsimp only at *
  by_cases he : e = 0
  · subst he
    obtain ⟨f1, f2, f3, f4, f5⟩ := HFX.out rfl
    have HF3 := Lib.hid f3
    have HF4 := Lib.hid f4
    have HIX := Lib.hid (isI_own ho2 (rise_le f4))
    clear f3 f4
    go_wp2_with fail
    refine (gaps_any q2 d2 _ x w2 HIX.out f5 HF4.out).mono ?_; rintro e w3 ⟨q3, d3, rfl, ho3, hb3⟩
    obtain ⟨hb3', hz3⟩ := below_step hb2' hz2 hb3
    have HI3 := Lib.hid ((HI2.out.later hb3).take f2)
    have HO3 := Lib.hid (IsB.of_own ho3 (gapsL_bytes x))
    have hkc : (k : Int) ≤ (d1 : Int) := by have := HI1.out.lens; omega
    have hd1 : decide ((1 : Int) ≤ (k : Int)) = true := by simp <;> omega
    have hd2 : decide ((k : Int) ≤ (b.length : Int)) = true := by simp <;> omega
    have hd3 : decide (k ≤ b.length) = true := by simp <;> omega
    have hd4 : decide (1 ≤ k) = true := by simp <;> omega
    go_wp2_with fail
    refine (sameBytes_any q3 q1 d3 d1 _ _ (gapsL x) (b.take k) w3 HO3.out HI3.out).mono ?_; rintro e w4 ⟨rfl, rfl⟩
    have hd : decide (gapsL x = b.take k) = true := decide_eq_true HF3.out.symm
    rw [hd]
    go_wp2_with fail
    go_ret
    exact ⟨rfl, hb3'⟩
  · obtain ⟨b1, b2⟩ := HBAD.out he
    subst b1 b2
    have hz : ((e : Int) == 0) = false := by simp <;> omega
    have hz2' : ((e : Int) != 0) = true := by simp <;> omega
    clear he
    go_wp2_with fail
    go_ret
    exact ⟨rfl, hb2'⟩
end Go.Proofs.Ytfkjojagdgbhdaa
