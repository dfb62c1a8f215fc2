/- The walk of frame.Wrap, for a payload that is not too long. -/
import Derived.Test.YtmdbcknlipahgaaDoorSum
import Derived.Test.YtmdbcknlipahgaaDoorPut
import Derived.Test.YtmdbcknlipahgaaDoorBysOne
import Derived.Test.YtmdbcknlipahgaaDoorPFrame
namespace Go.Proofs.YtmdbcknlipahgaaDoor
open Go.RowKit
set_option maxHeartbeats 1000000 in
set_option maxRecDepth 100000 in
theorem wrap_any (p : Option Addr) (c n : Nat) (l : List Nat) (w : World) (hl : IsB w (.slice p n c) l) (hn : n ≤ 20000) :
    Calls Tryd.prog 43 #[.slice p n c] w fun e w' => ∃ p' c', e = .returned (.tuple #[.slice p' (wrapL l).length c', .int .i64 0]) ∧ w'.ownsRow w.heap.size 5 1 (.slice p' (wrapL l).length c') (wrapL l).length (bys (wrapL l)) ∧ Below w.heap.size w w' := by
  obtain ⟨rfl, hc1, hc2⟩ := hl.lens
  have HL := Lib.hid hl
  have hnu : l.length < U64 := by unfold U64; omega
  have hp10 : (put l.length).length ≤ 10 := put_len10 hnu
  clear hc1 hc2 hl
  go_enter Tryd.func43, Tryd.ntmps43
  go_wp2_with fail
  refine (put_any l.length _ hnu).mono ?_; rintro e w1 ⟨p1, c1, rfl, ho1, hb1⟩
  have hz1 := hb1.size
  have HS1 := Lib.hid (HL.out.later hb1).1
  go_wp2_with (at_builtin; refine wp_app (w0 := w) rfl _ _ _ rfl w.heap.size 5 Tryd.underlying54 inf_u8 rfl (by decide) rfl ho1 rfl HS1.out (bys_one _) (by unfold maxLen; omega) (by omega) hb1 hz1 ?_; intro p2 c2 w2 ho2 hb2 hz2 _ _)
  rw [← bys_append, ← List.length_append] at ho2
  have hbb := bodyL_bytes HL.out.2
  have hbl : (put l.length ++ l).length = (put l.length).length + l.length := List.length_append
  rw [← hbl]
  have hbl2 : (bodyL l).length ≤ 20010 := by unfold bodyL; omega
  have hW := Lib.hid (show wrapL l = bodyL l ++ le4 (sumL (bodyL l)) from rfl)
  have hWl := Lib.hid (show (wrapL l).length = (bodyL l).length + 4 by rw [hW.out, List.length_append]; simp [le4])
  change w2.ownsRow _ _ _ (.slice p2 (bodyL l).length c2) (bodyL l).length (bys (bodyL l)) at ho2
  change _ at hbl
  have hBe : put l.length ++ l = bodyL l := rfl
  rw [hBe]
  generalize hB : bodyL l = B at *
  clear hbl hBe hB
  refine (sum_any p2 c2 _ B w2 (IsB.of_own ho2 hbb)).mono ?_; rintro e w3 ⟨rfl, hb3⟩
  have hs32 := sumL_lt B
  obtain ⟨hb3', hz3⟩ := below_step hb2 hz2 hb3
  have ho3 := own_later ho2 hb3
  generalize sumL B = s at *
  clear ho2 hb2 hz2 hb3 ho1 hb1 hz1
  go_wp2_with fail
  go_loopw [4, 18] (fun v i wr => ∃ k : Nat, i = .int .i64 (k : Int) ∧ k ≤ 4 ∧ ∃ p' c', v = .slice p' (B.length + k) c' ∧ wr.ownsRow w.heap.size 5 1 (.slice p' (B.length + k) c') (B.length + k) (bys (B ++ (le4 s).take k)) ∧ Below w.heap.size w wr ∧ w.heap.size ≤ wr.heap.size)
    (fun _ i _ => 9 - (intOf i).toNat)
  case atStart => exact ⟨0, rfl, by omega, p2, c2, rfl, by simpa using ho3, hb3', hz3⟩
  case round =>
    obtain ⟨k, rfl, hk, p', c', rfl, hown, hb, hsz⟩ := hrel
    by_cases hlt : k < 4
    · have hval := Lib.hid (show ∀ j : Nat, j < 4 → (le4 s).take (j + 1) = (le4 s).take j ++ [s / 2 ^ (8 * j) % 256] from fun j hj => by
        rw [List.take_succ_eq_append_getElem (by simp [le4]; omega)]
        simp [le4])
      go_wp2_with (at_builtin; refine wp_app1 rfl _ _ _ rfl _ _ Tryd.underlying54 inf_u8 rfl (by decide) rfl hown (us := [_]) rfl rfl (by simp [Value.oneCell']) (by unfold maxLen; omega) (by omega) hb hsz ?_; intro p1 c1 w1 hown1 hb1 hsz1 _ _)
      have ev : ((s : Int) / 2 ^ (8 * k) % 256) = ((s / 2 ^ (8 * k) % 256 : Nat) : Int) := by push_cast; rfl
      rw [ev, ← bys_snoc, List.append_assoc, ← hval.out k hlt] at hown1
      go_roundw
      case rel => exact ⟨k + 1, by go_num, by omega, p1, c1, rfl, hown1, hb1, hsz1⟩
      case measure => simp [intOf]; omega
    · obtain rfl : k = 4 := by omega
      go_wp2
      go_ret2
      rw [hWl.out, hW.out]
      have e : (le4 s).take 4 = le4 s := List.take_of_length_le (by simp [le4])
      rw [e] at hown
      exact ⟨p', c', rfl, hown, hb⟩
end Go.Proofs.YtmdbcknlipahgaaDoor
