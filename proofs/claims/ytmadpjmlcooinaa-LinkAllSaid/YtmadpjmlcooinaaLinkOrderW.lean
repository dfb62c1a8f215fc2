/- The walk of the law LinkOrder. -/
import Derived.Test.YtmadpjmlcooinaaLSpec
import Derived.Test.YtmadpjmlcooinaaTake
import Derived.Test.YtmadpjmlcooinaaSameMail
namespace Go.Proofs.Ytmadpjmlcooinaa
open Go.RowKit
set_option maxHeartbeats 1000000 in
set_option maxRecDepth 100000 in
theorem linkOrder_walk0 (HLD : Hid LinedSpec) (w : World) (v1 : Value) (l1 : List (List Int)) (h1 : IsR 2 w v1 l1) (v2 : Value) (l2 : List (List Int)) (h2 : IsR 2 w v2 l2) :
    Calls Try.prog 3 #[v1, v2] w fun e w' => e = .returned (.bool true) ∧ Below w.heap.size w w' := by
  obtain ⟨p1, c1, rfl⟩ := h1.val
  obtain ⟨p2, c2, rfl⟩ := h2.val
  have HL1 := Lib.hid h1
  obtain ⟨_, hc2, hc63⟩ := h2.lens
  have HT := Lib.hid (fun (W : World) (hb : Below w.heap.size w W) (k : Nat) (hk : k ≤ l2.length) => (h2.take hk).later hb)
  clear h1 h2
  generalize l2.length = m at *
  go_enter Try.func3, Try.ntmps3
  go_wp2_with fail
  refine (posts_any p1 c1 _ l1 12 w HL1.out (by omega)).mono ?_; rintro e w1 ⟨q1, d1, rfl, ho1, hb1⟩
  have hpl : (postsL l1 12).length ≤ 12 := by unfold postsL; rw [List.length_map]; exact List.length_take_le _ _
  generalize postsL l1 12 = l at *
  obtain ⟨hd1, hd63⟩ : l.length ≤ d1 ∧ d1 ≤ 9223372036854775807 := by
    obtain ⟨p', c', hp, h1, h2, h3, _⟩ := Sl.of_own ho1
    cases hp
    exact ⟨h1, by unfold maxLen at h2; omega⟩
  have HO1 := Lib.hid ho1
  clear ho1
  by_cases hm : m ≤ 60
  · go_wp2_with fail
    refine (HLD.out q1 p2 l.length d1 m c2 l (l2.take m) 0 w1 (Sl.of_own HO1.out) hpl (HT.out w1 hb1 m (by omega)) hm (by omega)).mono ?_
    rintro e w2 ⟨s, p6, c6, pl, cl, rfl, hI, hP, ho2, hb2⟩
    have hgot : s.got = l.take s.got.length := by
      have h1 := hI.hg
      have h2 : s.got.length = s.want := by rw [h1, List.length_take]; have := hI.hw; omega
      rw [h2]; exact h1
    have hgl : s.got.length ≤ l.length := by rw [hI.hg]; exact List.length_take_le' _ _
    have hll : s.loads.length ≤ l.length := by rw [hI.hl, List.length_drop]; omega
    have HG := Lib.hid hgot
    clear hgot hI hP
    generalize s.got = gt at *
    generalize s.loads = ld at *
    generalize s.ba = ba at *
    have HO2 := Lib.hid ho2
    obtain ⟨hb2', hz2⟩ := below_step hb1 hb1.size hb2
    have hq1 : decide ((l.length : Int) < (gt.length : Int)) = false := by simp; omega
    have hq2 : decide (l.length < gt.length) = false := by simp; omega
    have hq3 : decide ((l.length : Int) < (ld.length : Int)) = false := by simp; omega
    have hq4 : decide (l.length < ld.length) = false := by simp; omega
    have hgi : (gt.length : Int) ≤ (d1 : Int) := by omega
    have HSN := Lib.hid (fun (W : World) (hb : Below w2.heap.size w2 W) => sameMail_any p6 q1 c6 d1 gt.length gt.length gt (l.take gt.length) W ((Sl.of_own HO2.out).later hb) (by have h := ((Sl.of_own HO1.out).later (hb2.trans (hb.mono hb2.size))).takek hgl; rw [mcs_take] at h; exact h) HG.out)
    unfold sndV
    clear ho2
    go_wp2_with (go_at_call 16; refine (HSN.out _ ((Below.refl _ _).alloc (Nat.le_refl _) _)).mono ?_; rintro e w3 ⟨rfl, hb3⟩)
    go_ret
    exact ⟨rfl, (hb2'.alloc hz2 _).trans (hb3.mono (by simp; omega))⟩
  · have hmi : (60 : Int) ≤ (c2 : Int) := by omega
    go_wp2_with fail
    refine (HLD.out q1 p2 l.length d1 60 c2 l (l2.take 60) 0 w1 (Sl.of_own HO1.out) hpl (HT.out w1 hb1 60 (by omega)) (by omega) (by omega)).mono ?_
    rintro e w2 ⟨s, p6, c6, pl, cl, rfl, hI, hP, ho2, hb2⟩
    have hgot : s.got = l.take s.got.length := by
      have h1 := hI.hg
      have h2 : s.got.length = s.want := by rw [h1, List.length_take]; have := hI.hw; omega
      rw [h2]; exact h1
    have hgl : s.got.length ≤ l.length := by rw [hI.hg]; exact List.length_take_le' _ _
    have hll : s.loads.length ≤ l.length := by rw [hI.hl, List.length_drop]; omega
    have HG := Lib.hid hgot
    clear hgot hI hP
    generalize s.got = gt at *
    generalize s.loads = ld at *
    generalize s.ba = ba at *
    have HO2 := Lib.hid ho2
    obtain ⟨hb2', hz2⟩ := below_step hb1 hb1.size hb2
    have hq1 : decide ((l.length : Int) < (gt.length : Int)) = false := by simp; omega
    have hq2 : decide (l.length < gt.length) = false := by simp; omega
    have hq3 : decide ((l.length : Int) < (ld.length : Int)) = false := by simp; omega
    have hq4 : decide (l.length < ld.length) = false := by simp; omega
    have hgi : (gt.length : Int) ≤ (d1 : Int) := by omega
    have HSN := Lib.hid (fun (W : World) (hb : Below w2.heap.size w2 W) => sameMail_any p6 q1 c6 d1 gt.length gt.length gt (l.take gt.length) W ((Sl.of_own HO2.out).later hb) (by have h := ((Sl.of_own HO1.out).later (hb2.trans (hb.mono hb2.size))).takek hgl; rw [mcs_take] at h; exact h) HG.out)
    unfold sndV
    clear ho2
    go_wp2_with (go_at_call 16; refine (HSN.out _ ((Below.refl _ _).alloc (Nat.le_refl _) _)).mono ?_; rintro e w3 ⟨rfl, hb3⟩)
    go_ret
    exact ⟨rfl, (hb2'.alloc hz2 _).trans (hb3.mono (by simp; omega))⟩
end Go.Proofs.Ytmadpjmlcooinaa
