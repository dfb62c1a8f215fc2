/- The walk of the law LinkAll. -/
import Derived.Test.YtmadpjmlcooinaaLSpec
import Derived.Test.YtmadpjmlcooinaaTake
import Derived.Test.YtmadpjmlcooinaaSameMail
namespace Go.Proofs.Ytmadpjmlcooinaa
open Go.RowKit
set_option maxHeartbeats 1000000 in
set_option maxRecDepth 100000 in
theorem linkAll_walk0 (HLD : Hid LinedSpec) (w : World) (v1 : Value) (l1 : List (List Int)) (h1 : IsR 2 w v1 l1) (v2 : Value) (l2 : List (List Int)) (h2 : IsR 2 w v2 l2) :
    Calls Try.prog 4 #[v1, v2] w fun e w' => e = .returned (.bool true) ∧ Below w.heap.size w w' := by
  obtain ⟨p1, c1, rfl⟩ := h1.val
  obtain ⟨p2, c2, rfl⟩ := h2.val
  have HL1 := Lib.hid h1
  obtain ⟨_, hc2, hc63⟩ := h2.lens
  have HT := Lib.hid (fun (W : World) (hb : Below w.heap.size w W) (k : Nat) (hk : k ≤ l2.length) => (h2.take hk).later hb)
  clear h1 h2
  generalize l2.length = m at *
  go_enter Try.func4, Try.ntmps4
  go_wp2_with fail
  refine (posts_any p1 c1 _ l1 12 w HL1.out (by omega)).mono ?_; rintro e w1 ⟨q1, d1, rfl, ho1, hb1⟩
  have hpl : (postsL l1 12).length ≤ 12 := by unfold postsL; rw [List.length_map]; exact List.length_take_le _ _
  generalize postsL l1 12 = l at *
  have HO1 := Lib.hid ho1
  clear ho1
  have HLE := Lib.hid (fun (q : Option Addr) (n c m d : Nat) (tr : List (List Int)) (h1 : Sl w1 2 (.slice q1 n c) n (mcs l)) (h2 : n ≤ 12) (h3 : IsR 2 w1 (.slice q m d) tr) (h4 : m ≤ 60) => HLD.out q1 q n c m d l tr (3 * (l.length + 2)) w1 h1 h2 h3 h4 (by omega))
  rw [show ((3 * (l.length + 2) : Nat) : Int) = 3 * ((l.length : Int) + 2) from by push_cast; rfl] at HLE
  by_cases hm : m ≤ 40
  · go_wp2_with fail
    refine (HLE.out p2 l.length d1 m c2 (l2.take m) (Sl.of_own HO1.out) hpl (HT.out w1 hb1 m (by omega)) (by omega)).mono ?_
    rintro e w2 ⟨s, p6, c6, pl, cl, rfl, hI, hP, ho2, hb2⟩
    obtain ⟨ba, ld, wa, pk, ak, gt⟩ := s
    have hb := prog_end hP rfl
    have h1 := hI.hb
    have h2 := hI.hw
    dsimp only at hb h1 h2
    obtain rfl : ba = l.length := by omega
    obtain rfl : wa = l.length := by omega
    obtain rfl : ld = [] := by have h := hI.hl; dsimp only at h; rw [h]; exact List.drop_length
    obtain rfl : gt = l := by have h := hI.hg; dsimp only at h; rw [h]; exact List.take_length
    dsimp only at ho2
    dsimp only
    have HO2 := Lib.hid ho2
    obtain ⟨hb2', hz2⟩ := below_step hb1 hb1.size hb2
    have HSN := Lib.hid (fun (W : World) (hb : Below w2.heap.size w2 W) => sameMail_any p6 q1 c6 d1 gt.length gt.length gt gt W ((Sl.of_own HO2.out).later hb) ((Sl.of_own HO1.out).later (hb2.trans (hb.mono hb2.size))) rfl)
    unfold sndV
    rw [show (([] : List Ml).length : Nat) = 0 from rfl]
    have hX := bx_new w2 [.int .i64 1, .int .i64 (gt.length : Int), .slice pl 0 cl] 27
    clear ho2 hI hP hb h1 h2
    go_wp2_with (go_at_call 16; refine (HSN.out _ ((Below.refl _ _).alloc (Nat.le_refl _) _)).mono ?_; rintro e w3 ⟨rfl, hb3⟩; obtain ⟨hx0, hx1, hx2, _, _, _⟩ := (hX.later hb3 (by simp)).three)
    go_ret
    exact ⟨rfl, (hb2'.alloc hz2 _).trans (hb3.mono (by simp; omega))⟩
  · have hmi : (40 : Int) ≤ (c2 : Int) := by omega
    go_wp2_with fail
    refine (HLE.out p2 l.length d1 40 c2 (l2.take 40) (Sl.of_own HO1.out) hpl (HT.out w1 hb1 40 (by omega)) (by omega)).mono ?_
    rintro e w2 ⟨s, p6, c6, pl, cl, rfl, hI, hP, ho2, hb2⟩
    obtain ⟨ba, ld, wa, pk, ak, gt⟩ := s
    have hb := prog_end hP rfl
    have h1 := hI.hb
    have h2 := hI.hw
    dsimp only at hb h1 h2
    obtain rfl : ba = l.length := by omega
    obtain rfl : wa = l.length := by omega
    obtain rfl : ld = [] := by have h := hI.hl; dsimp only at h; rw [h]; exact List.drop_length
    obtain rfl : gt = l := by have h := hI.hg; dsimp only at h; rw [h]; exact List.take_length
    dsimp only at ho2
    dsimp only
    have HO2 := Lib.hid ho2
    obtain ⟨hb2', hz2⟩ := below_step hb1 hb1.size hb2
    have HSN := Lib.hid (fun (W : World) (hb : Below w2.heap.size w2 W) => sameMail_any p6 q1 c6 d1 gt.length gt.length gt gt W ((Sl.of_own HO2.out).later hb) ((Sl.of_own HO1.out).later (hb2.trans (hb.mono hb2.size))) rfl)
    unfold sndV
    rw [show (([] : List Ml).length : Nat) = 0 from rfl]
    have hX := bx_new w2 [.int .i64 1, .int .i64 (gt.length : Int), .slice pl 0 cl] 27
    clear ho2 hI hP hb h1 h2
    go_wp2_with (go_at_call 16; refine (HSN.out _ ((Below.refl _ _).alloc (Nat.le_refl _) _)).mono ?_; rintro e w3 ⟨rfl, hb3⟩; obtain ⟨hx0, hx1, hx2, _, _, _⟩ := (hX.later hb3 (by simp)).three)
    go_ret
    exact ⟨rfl, (hb2'.alloc hz2 _).trans (hb3.mono (by simp; omega))⟩
end Go.Proofs.Ytmadpjmlcooinaa
