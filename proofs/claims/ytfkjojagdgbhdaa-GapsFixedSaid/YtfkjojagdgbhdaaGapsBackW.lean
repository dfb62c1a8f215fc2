/- The walk of the law GapsBack. -/
import Derived.Test.YtfkjojagdgbhdaaUngap
namespace Go.Proofs.Ytfkjojagdgbhdaa
open Go.RowKit
theorem its_one (l : List Int) : ∀ u ∈ its l, u.oneCell' = true := by
  intro u hu
  obtain ⟨x, _, rfl⟩ := List.mem_map.1 hu
  rfl
theorem isI_own {w : World} {base : Nat} {e : TypeId} {v : Value} {l : List Nat} {n : Nat} (h : w.ownsRow base e 1 v n (its (nti l))) (hl : ∀ x ∈ l, x ≤ MaxN) : IsI w v (nti l) :=
  IsI.of_own h (fun x hx => by
    obtain ⟨y, hy, rfl⟩ := List.mem_map.1 hx
    have := hl y hy
    unfold MaxN at this
    omega)
set_option maxHeartbeats 1000000 in
set_option maxRecDepth 100000 in
theorem gapsBack_walk (w : World) (v1 : Value) (l1 : List Int) (hl1 : IsI w v1 l1) (v2 : Value) (l2 : List Nat) (hl2 : IsB w v2 l2) :
    Calls Try.prog 10 #[v1, v2] w fun e w' => e = .returned (.bool true) ∧ Below w.heap.size w w' := by
  obtain ⟨p1, c1, rfl⟩ := hl1.val
  obtain ⟨p2, c2, rfl⟩ := hl2.val
  have HL1 := Lib.hid hl1
  have HL2 := Lib.hid hl2
  have hT : (l1.take 100).length ≤ 100 := List.length_take_le _ _
  have ht20 : (l2.take 20).length ≤ 20 := List.length_take_le _ _
  have HT := Lib.hid (show AllB (l2.take 20) from fun x hx => hl2.2 x (List.mem_of_mem_take hx))
  clear hl1 hl2
  go_enter Try.func10, Try.ntmps10
  go_wp2_with fail
  refine (rising_any p1 c1 _ l1 100 w HL1.out (by omega)).mono ?_; rintro e w1 ⟨q1, d1, rfl, ho1, hb1⟩
  have hrl := risF_len (l1.take 100) 0
  have hri := risF_rise (l1.take 100) 0 0 (by omega) (by unfold MaxN; omega)
  generalize l1.take 100 = T at *
  rw [← hrl] at ho1 hT ⊢
  generalize risF 0 T = r at *
  have HRI := Lib.hid hri
  clear hri hrl
  have HI1 := Lib.hid (isI_own ho1 (rise_le HRI.out))
  go_wp2_with fail
  refine (gaps_any q1 d1 _ r w1 HI1.out (by omega) HRI.out).mono ?_; rintro e w2 ⟨q2, d2, rfl, ho2, hb2⟩
  have hgl := gapsL_len r
  have hgl2 : (gapsL r).length ≤ 2000 := by
    have h1 := gapsF_len_le r 0 HRI.out
    have h2 := put_len10 (n := r.length) (by unfold U64; omega)
    unfold gapsL
    rw [List.length_append]
    omega
  have HWB := Lib.hid (gapsL_bytes r)
  have HU := Lib.hid (ungapL_gapsL (l := r) (by omega) HRI.out (l2.take 20))
  have HI1' := Lib.hid (HI1.out.later hb2)
  generalize ht : l2.take 20 = t at *
  have HTE := Lib.hid ht
  clear ht
  generalize hf : gapsL r = f at *
  have HF := Lib.hid hf
  clear hf
  have HS2 := Lib.hid (Sl.of_own ho2)
  obtain ⟨hb2', hz2⟩ := below_step hb1 hb1.size hb2
  go_wp2_with (at_builtin; refine wp_app0 rfl _ _ _ rfl 5 Try.underlying26 inf_u8 rfl (by decide) rfl rfl HS2.out (bys_one _) (by unfold maxLen; omega) (by omega) ?_; intro p3 c3 w3 ho3 hb3)
  obtain ⟨hb3', hz3⟩ := below_step hb2' hz2 hb3
  refine (some_any p2 c2 _ l2 20 w3 (HL2.out.later hb3') (by omega)).mono ?_; rintro e w4 ⟨p4, c4, rfl, ho4, hb4⟩
  rw [HTE.out] at ho4 ⊢
  have ho3' := own_later ho3 hb4
  obtain ⟨hb24, hz24⟩ := below_step hb3 hb3.size hb4
  have HS4 := Lib.hid (Sl.of_own ho4)
  go_wp2_with (at_builtin; refine wp_app (w0 := w2) rfl _ _ _ rfl w2.heap.size 5 Try.underlying26 inf_u8 rfl (by decide) rfl ho3' rfl HS4.out (bys_one _) (by unfold maxLen; omega) (by omega) hb24 hz24 ?_; intro p5 c5 w5 ho5 hb5 hz5 _ _)
  rw [← bys_append, ← List.length_append] at ho5
  have HI5 := Lib.hid (HI1'.out.later hb5)
  have hall : AllB (f ++ t) := fun x hx => by
    rcases List.mem_append.1 hx with h | h
    · exact HWB.out x h
    · exact HT.out x h
  have hb5' := below_step hb2' hz2 hb5
  refine (ungap_any p5 c5 _ (f ++ t) w5 (by have h := IsB.of_own ho5 hall; rw [List.length_append] at h; exact h)).mono ?_; rintro e w6 ⟨p6, c6, rfl, ho6, hb6⟩
  rw [HU.out] at ho6 ⊢
  have hb6' := below_step hb5'.1 hb5'.2 hb6
  have HI6 := Lib.hid (HI5.out.later hb6)
  have HO6 := Lib.hid (isI_own ho6 (rise_le HRI.out))
  clear ho1 ho2 ho3 ho3' ho4 ho5 ho6 hb1 hb2 hb3 hb4 hb5 hb6 hb2' hb3' hb24 hall
  have hgt : decide ((r.length : Int) < (f.length : Int)) = true := by simp <;> omega
  go_wp2_with fail
  refine (sameInts_any p6 q1 c6 d1 _ _ (nti r) (nti r) w6 HO6.out HI6.out).mono ?_; rintro e w7 ⟨rfl, hb7⟩
  have hd : decide (nti r = nti r) = true := decide_eq_true rfl
  rw [hd]
  go_wp2_with fail
  go_ret
  exact ⟨rfl, (below_step hb6'.1 hb6'.2 hb7).1⟩
end Go.Proofs.Ytfkjojagdgbhdaa
