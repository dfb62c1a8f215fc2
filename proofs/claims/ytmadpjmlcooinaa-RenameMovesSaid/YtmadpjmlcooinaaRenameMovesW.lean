/- The walk of the law RenameMoves. -/
import Derived.Test.YtmadpjmlcooinaaDone
import Derived.Test.YtmadpjmlcooinaaPRen
namespace Go.Proofs.Ytmadpjmlcooinaa
open Go.RowKit
set_option maxHeartbeats 4000000 in
set_option maxRecDepth 100000 in
theorem renameMoves_walk (w : World) (v0 : Value) (L : List Nt) (h0 : IsNt w v0 L) (x : Int) (hx0 : -9223372036854775808 ≤ x) (hx1 : x ≤ 9223372036854775807) (y : Int) (hy0 : -9223372036854775808 ≤ y) (hy1 : y ≤ 9223372036854775807) :
    Calls Try.prog 10 #[v0, .int .i64 x, .int .i64 y] w fun e w' => e = .returned (.bool true) ∧ Below w.heap.size w w' := by
  have HDN := Lib.hid (done_ok v0 L w h0)
  have HNX := Lib.hid (fun w' => name_ok x w' hx0 hx1)
  have HNY := Lib.hid (fun w' => name_ok y w' hy0 hy1)
  obtain ⟨p0, c0, rfl, _⟩ := h0.val
  clear h0
  have hxa := pickN_lt x (m := 4) (by omega)
  have hya := pickN_lt y (m := 4) (by omega)
  generalize pickN x 4 = a at *
  generalize pickN y 4 = b at *
  go_enter Try.func10, Try.ntmps10
  go_wp2_with fail
  refine HDN.out.mono ?_; rintro e w1 ⟨p, c, l, rfl, hdn, hR, hb1⟩
  obtain ⟨b2, B2, z2⟩ := boxed0 w1 [.slice p l.length c] 75
  have hR2 := hR.later b2
  have hb2 := below_next hb1 (Nat.le_refl _) b2
  go_wp2_with fail
  generalize (w1.alloc (.cells #[.slice p l.length c] 75)) = w2 at *
  refine (HNX.out _).mono ?_; rintro e w3 ⟨rfl, hb3⟩
  go_wp2_with fail
  refine (HNY.out _).mono ?_; rintro e w4 ⟨rfl, hb4⟩
  have hb24 := hb3.trans (hb4.mono hb3.size)
  have B4 := B2.next hb24
  have hR4 := Lib.hid (hR2.later hb24)
  have hw4 := Lib.hid (below_next hb2 (Nat.le_refl _) hb24)
  have hk4 := B4.one
  have HD := hdn
  have HB4 := Lib.hid B4
  clear hb24 hb3 hb4 hR2 hb2 b2 B2 z2 hR hb1 hdn B4
  have HDK := Lib.hid (HD.out.dk (by omega))
  have hix := ixF_le (l.map (·.1)) (nmC a)
  rw [List.length_map] at hix
  have hl20 : l.length ≤ 20 := by have := HD.out.len; rw [List.length_map] at this; exact this
  rcases hrd : rdF (l.map (·.1)) (nmC a) with _ | d0
  · have HI := Lib.hid (rdF_none hrd)
    have HRD := Lib.hid (fun W hW => read_miss (nmC a) _ l W (((hR4.out.later hW).mono (Nat.zero_le _))) HDK.out hrd)
    have HRN := Lib.hid (fun W hW => rename_miss (nmC a) _ l (nmC b) W ((hR4.out.later hW).mono (Nat.zero_le _)) HDK.out (nmC_ok hya) (by have h := rdF_none hrd; rw [List.length_map] at h; exact h))
    clear hrd hix
    go_wp2_with fail
    refine (HRD.out _ (Below.refl _ _)).mono ?_; rintro e w5 ⟨rfl, hb5⟩
    have hk5 := (HB4.out.next hb5).one
    go_wp2_with fail
    refine (HRN.out _ hb5).mono ?_; rintro e w6 ⟨rfl, hb6⟩
    have hfin := ((hw4.out.trans (hb5.mono hw4.out.size)).trans (hb6.mono (Nat.le_trans hw4.out.size hb5.size))).alloc (Nat.le_trans (Nat.le_trans hw4.out.size hb5.size) hb6.size) (.cells #[.slice none 0 0] 75)
    have HFN := Lib.hid hfin
    clear hfin
    go_wp2_with fail
    go_ret
    exact ⟨rfl, HFN.out⟩
  · have hlt : ixF (l.map (·.1)) (nmC a) < l.length := by
      obtain ⟨h, _⟩ := rdF_some hrd
      rw [List.length_map] at h; exact h
    have HRD := Lib.hid (fun W hW => read_hit (nmC a) _ l d0 W (((hR4.out.later hW).mono (Nat.zero_le _))) HDK.out hrd)
    have HRN := Lib.hid (fun W hW => rename_yes (nmC a) (nmC b) _ l W ((hR4.out.later hW).mono (Nat.zero_le _)) HDK.out (nmC_ok hya) hlt)
    have HAB := Lib.hid (HD.out.allB hrd)
    have HQ := Lib.hid hrd
    clear hlt hrd hix
    go_wp2_with fail
    refine (HRD.out _ (Below.refl _ _)).mono ?_; rintro e w5 ⟨q5, c5, rfl, hr5, hb5⟩
    have hk5 := (HB4.out.next hb5).one
    have HR5 := Lib.hid hr5
    go_wp2_with fail
    refine (HRN.out _ hb5).mono ?_; rintro e w6 ⟨p6, c6, l6, rfl, hm6, hr6, hb6⟩
    obtain ⟨b7, B7, z7⟩ := boxed0 w6 [.slice p6 l6.length c6] 75
    have HR7 := Lib.hid (hr6.later b7)
    have hw7 := Lib.hid (((hw4.out.trans (hb5.mono hw4.out.size)).trans (hb6.mono (Nat.le_trans hw4.out.size hb5.size))).trans (b7.mono (Nat.le_trans (Nat.le_trans hw4.out.size hb5.size) hb6.size)))
    have hb57 := Lib.hid (hb6.trans (b7.mono hb6.size))
    have HB7 := Lib.hid B7
    have hk7 := B7.one
    have HD6 := Lib.hid (show DnOk 20 (l6.map (·.1)) by rw [hm6.out]; exact HD.out.re hya)
    have HM6 := hm6
    go_wp2_with fail
    clear hr5 hr6 hb6 b7 B7 z7 hm6 hk5
    generalize (w6.alloc (.cells #[.slice p6 l6.length c6] 75)) = w7 at *
    have HDK6 := Lib.hid (HD6.out.dk (by omega))
    have HSB := Lib.hid (fun (W : World) (qq : Option Addr) (cc : Nat) (h : RdB W w7.heap.size 1 (.slice qq d0.length cc) d0.length (bys d0)) (hW : Below w7.heap.size w7 W) => (show Calls Try.prog 31 #[.slice qq d0.length cc, .slice q5 d0.length c5] W fun e w' => e = .returned (.bool true) ∧ W = w' from (sameBytes_any qq q5 cc c5 d0.length d0.length d0 d0 W (h.isB HAB.out) (((HR5.out.later hb57.out).later hW).isB HAB.out)).mono (by rintro e w' ⟨rfl, h⟩; exact ⟨by simp, h⟩)))
    have hxw := hw7.out.size
    by_cases hab : a = b
    · subst hab
      have hsame : reF (l.map (·.1)) (nmC a) (nmC a) = l.map (·.1) := by unfold reF; rw [if_pos rfl]
      have hr6 : rdF (l6.map (·.1)) (nmC a) = some d0 := by rw [HM6.out, hsame]; exact HQ.out
      have hpos : 0 < l6.length := by
        obtain ⟨h, _⟩ := rdF_some hr6
        rw [List.length_map] at h; omega
      have hpi : (0 : Int) < (l6.length : Int) := by omega
      have HRD := Lib.hid (fun W hW => read_hit (nmC a) _ l6 d0 W ((HR7.out.later hW).mono (Nat.zero_le _)) HDK6.out hr6)
      clear hsame hr6
      refine (HRD.out _ (Below.refl _ _)).mono ?_; rintro e w8 ⟨q8, c8, rfl, hr8, hb8⟩
      have hk8 := (HB7.out.next hb8).one
      have HR8 := Lib.hid hr8
      go_wp2_with fail
      refine (HRD.out _ hb8).mono ?_; rintro e w9 ⟨q9, c9, rfl, hr9, hb9⟩
      have hb79 := Lib.hid (hb8.trans (hb9.mono hb8.size))
      have hk9 := (HB7.out.next hb79.out).one
      have hfin := Lib.hid (hw7.out.trans (hb79.out.mono hxw))
      have hsb := HSB.out w9 q8 c8 (HR8.out.later hb9) hb79.out
      have HSB9 := Lib.hid hsb
      clear hsb hr8 hr9 hb8 hb9 hk8
      generalize nmC a = na at *
      go_wp2_with (go_at_call 31; refine HSB9.out.mono ?_; rintro e w' ⟨rfl, rfl⟩)
      go_ret
      exact ⟨rfl, hfin.out⟩
    · have hne : (nmC a).toList ≠ (nmC b).toList := fun e => hab (nmC_inj hxa hya e)
      obtain ⟨hrb, hra, hpos⟩ := rdF_reF HDK.out.one HQ.out hne
      rw [← HM6.out] at hrb hra hpos
      rw [List.length_map] at hpos
      have hpi : (0 : Int) < (l6.length : Int) := by omega
      have hbe : ((nmC a).toList == (nmC b).toList) = false := by simp [hne]
      have HRD := Lib.hid (fun W hW => read_hit (nmC b) _ l6 d0 W ((HR7.out.later hW).mono (Nat.zero_le _)) HDK6.out hrb)
      have HRA := Lib.hid (fun W hW => read_miss (nmC a) _ l6 W ((HR7.out.later hW).mono (Nat.zero_le _)) HDK6.out hra)
      clear hrb hra hne
      refine (HRD.out _ (Below.refl _ _)).mono ?_; rintro e w8 ⟨q8, c8, rfl, hr8, hb8⟩
      have hk8 := (HB7.out.next hb8).one
      have HR8 := Lib.hid hr8
      go_wp2_with fail
      refine (HRA.out _ hb8).mono ?_; rintro e w9 ⟨rfl, hb9⟩
      have hb79 := Lib.hid (hb8.trans (hb9.mono hb8.size))
      have hk9 := (HB7.out.next hb79.out).one
      have hfin := Lib.hid (hw7.out.trans (hb79.out.mono hxw))
      have hsb := HSB.out w9 q8 c8 (HR8.out.later hb9) hb79.out
      have HSB9 := Lib.hid hsb
      clear hsb hr8 hb8 hb9 hk8
      generalize nmC a = na at *
      generalize nmC b = nb at *
      go_wp2_with (go_at_call 31; refine HSB9.out.mono ?_; rintro e w' ⟨rfl, rfl⟩)
      go_ret
      exact ⟨rfl, hfin.out⟩
end Go.Proofs.Ytmadpjmlcooinaa
