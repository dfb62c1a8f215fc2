/- The walk of frame.Unwrap: it answers what unwrapL says, for every slice of bytes. -/
import Derived.Test.YtmdbcknlipahgaaDoorSum
import Derived.Test.YtmdbcknlipahgaaDoorBysOne
import Derived.Test.YtmdbcknlipahgaaDoorPFrame
namespace Go.Proofs.YtmdbcknlipahgaaDoor
open Go.RowKit
set_option maxHeartbeats 1000000 in
set_option maxRecDepth 100000 in
theorem unwrap_any (p : Option Addr) (c n : Nat) (l : List Nat) (w : World) (hl : IsB w (.slice p n c) l) :
    Calls Tryd.prog 44 #[.slice p n c] w fun e w' => ∃ p' c', e = .returned (.tuple #[.slice p' (unwrapL l).1.length c', .int .i64 ((unwrapL l).2.1 : Int), .int .i64 ((unwrapL l).2.2 : Int)]) ∧ w'.ownsRow w.heap.size 5 1 (.slice p' (unwrapL l).1.length c') (unwrapL l).1.length (bys (unwrapL l).1) ∧ Below w.heap.size w w' := by
  obtain ⟨rfl, hc1, hc2⟩ := hl.lens
  have HL := Lib.hid hl
  have hlen : l.length ≤ 9223372036854775807 := by omega
  have hlo := fun h => getL_bd (l := l) hl.2 h
  clear hl
  go_enter Tryd.func44, Tryd.ntmps44
  go_wp2_with fail
  refine (get_any p c _ l _ HL.out).mono ?_; rintro e w5 ⟨rfl, rfl⟩
  generalize hG : getL l = G at *
  obtain ⟨N, k, e⟩ := G
  have HG := Lib.hid hG
  clear hG
  dsimp only at *
  by_cases he : e = 0
  · subst he
    have HLO := hlo rfl
    clear hlo
    obtain ⟨_, hk1, hk2, hk10⟩ := HLO
    obtain ⟨b, off, rfl⟩ := HL.out.some_ (by omega)
    by_cases hN : 20000 < N
    · have HE := Lib.hid (unwrapL_size HG.out hN)
      go_wp2_with fail
      go_ret3
      rw [HE.out]
      exact ⟨none, 0, rfl, World.ownsRow_nil _ _ _ _, Below.refl _ _⟩
    · by_cases hend : l.length < k + N + 4
      · have HE := Lib.hid (unwrapL_short HG.out hN hend)
        go_wp2_with fail
        go_ret3
        rw [HE.out]
        exact ⟨none, 0, rfl, World.ownsRow_nil _ _ _ _, Below.refl _ _⟩
      · have hk0 : (0 : Int) ≤ (k : Int) := by omega
        have hs1 := Lib.hid (((HL.out.drop (k := k + N) (by omega)).take (k := 4) (by omega)).cap (c' := 4) (by omega) (by omega))
        have hs2 := Lib.hid (HL.out.take (k := k + N) (by omega))
        have hs3 := Lib.hid ((HL.out.drop (k := k) (by omega)).take (k := N) (by omega))
        have HE1 := Lib.hid (unwrapL_sum HG.out hN hend)
        have HE2 := Lib.hid (unwrapL_ok HG.out hN hend)
        generalize hq : (l.drop (k + N)).take 4 = q at *
        have hql : q.length = 4 := by rw [← hq, List.length_take, List.length_drop]; omega
        generalize hB : l.take (k + N) = B at *
        have HQ := Lib.hid hql
        clear hq hB hql
        go_wp2_with fail
        go_loop [9, 40] (fun s i => ∃ j a : Nat, i = .int .i64 (j : Int) ∧ j ≤ 4 ∧ s = .int .u32 (a : Int) ∧ a < 2 ^ (8 * j) ∧ un4 q = un4F j a (q.drop j)) (fun _ i => 4 - (intOf i).toNat)
        case atStart => exact ⟨0, 0, rfl, by omega, rfl, by decide, rfl⟩
        case round =>
          obtain ⟨j, a, rfl, hj, rfl, ha, hu⟩ := hrel
          have HA := Lib.hid ha
          have HUU := Lib.hid hu
          clear ha hu
          by_cases hlt : j < 4
          · have hjq : j < q.length := by rw [HQ.out]; exact hlt
            have hcb : q[j] < 256 := hs1.out.2 _ (List.getElem_mem hjq)
            obtain ⟨b', off', hb', hcell⟩ := hs1.out.get hjq
            cases hb'
            have hdr := Lib.hid (drop_cons hjq)
            generalize hc : q[j] = x at hcb hcell hdr
            clear hc hjq
            have HO := Lib.hid (or_byte hlt HA.out hcb)
            go_wp2_with fail
            go_round
            case rel => exact ⟨j + 1, a + x * 2 ^ (8 * j), by go_num, by omega, by rw [HO.out.1], HO.out.2, by rw [HUU.out, hdr.out]; rfl⟩
            case measure => simp [intOf]; omega
          · obtain rfl : j = 4 := by omega
            have hua : un4 q = a := by rw [HUU.out, List.drop_eq_nil_of_le (by rw [HQ.out]; omega)]; rfl
            have HX := Lib.hid hua
            clear hua
            go_wp2_with fail
            refine (sum_any _ c _ B _ hs2.out).mono ?_; rintro e w6 ⟨rfl, hb6⟩
            have hs3' := Lib.hid (hs3.out.later hb6)
            generalize hS : sumL B = S at *
            by_cases haS : a = S
            · have hcmp : ((a : Int) != (S : Int)) = false := by simp <;> omega
              have HE := Lib.hid (HE2.out (HX.out.trans haS))
              have htl : ((l.drop k).take N).length = N := by rw [List.length_take, List.length_drop]; omega
              have HTL := Lib.hid htl
              have HSL := Lib.hid (show Sl w6 1 (.slice (some ⟨b, off + k, none⟩) (k + N - k) (c - k)) (k + N - k) (bys ((l.drop k).take N)) by have h := hs3'.out.1; rw [HTL.out] at h; rw [show k + N - k = N by omega]; exact h)
              have hz6 := hb6.size
              clear haS htl
              go_wp2_with (at_builtin; refine wp_app (w0 := w) rfl _ _ _ rfl w.heap.size 5 Tryd.underlying54 inf_u8 rfl (by decide) rfl (World.ownsRow_nil _ _ _ _) rfl HSL.out (bys_one _) (by unfold maxLen; omega) (by omega) hb6 hz6 ?_; intro p7 c7 w7 ho7 hb7 hz7 _ _)
              go_ret3
              rw [HE.out]
              rw [Nat.zero_add, List.nil_append, show k + N - k = N by omega] at ho7
              refine ⟨p7, c7, ?_, ?_, hb7⟩
              · rw [HTL.out]; simp
              · rw [HTL.out]; exact ho7
            · have hcmp : ((a : Int) != (S : Int)) = true := by simp <;> omega
              have HE := Lib.hid (HE1.out (fun h => haS (HX.out.symm.trans h)))
              clear haS
              go_wp2_with fail
              go_ret3
              rw [HE.out]
              exact ⟨none, 0, rfl, World.ownsRow_nil _ _ _ _, hb6⟩
  · have HE := Lib.hid (unwrapL_get HG.out he)
    have hz : ((e : Int) == 0) = false := by simp <;> omega
    have hz2 : ((e : Int) != 0) = true := by simp <;> omega
    clear hlo he
    go_wp2_with fail
    go_ret3
    rw [HE.out]
    exact ⟨none, 0, rfl, World.ownsRow_nil _ _ _ _, Below.refl _ _⟩
end Go.Proofs.YtmdbcknlipahgaaDoor
