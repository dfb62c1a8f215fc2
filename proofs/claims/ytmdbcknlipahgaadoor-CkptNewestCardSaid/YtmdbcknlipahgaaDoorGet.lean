/- The walk of varint.Get: it answers what getL says, for every slice of bytes. -/
import Derived.Test.YtmdbcknlipahgaaDoorOwn
import Derived.Test.YtmdbcknlipahgaaDoorPGet
namespace Go.Proofs.YtmdbcknlipahgaaDoor
open Go.RowKit
theorem drop_cons {α : Type} {l : List α} {i : Nat} (h : i < l.length) : l.drop i = l[i] :: l.drop (i + 1) := List.drop_eq_getElem_cons h
theorem bys_get {l : List Nat} {i : Nat} (h : i < l.length) : (bys l)[i]? = some (.int .u8 ((l[i] : Nat) : Int)) := by
  unfold bys; rw [List.getElem?_map, List.getElem?_eq_getElem h]; rfl
theorem IsB.get {w : World} {p : Option Addr} {c n : Nat} {l : List Nat} (h : IsB w (.slice p n c) l) {i : Nat} (hi : i < l.length) : ∃ b off, p = some ⟨b, off, none⟩ ∧ w.cell? ⟨b, off + i, none⟩ = some (.int .u8 ((l[i] : Nat) : Int)) := by
  obtain ⟨rfl, _⟩ := h.lens
  exact h.1.get (bys_get hi)
set_option maxHeartbeats 1000000 in
set_option maxRecDepth 100000 in
theorem get_any (p : Option Addr) (c n : Nat) (l : List Nat) (w : World) (hl : IsB w (.slice p n c) l) :
    Calls Tryd.prog 64 #[.slice p n c] w fun e w' => e = .returned (.tuple #[.int .u64 ((getL l).1 : Int), .int .i64 ((getL l).2.1 : Int), .int .i64 ((getL l).2.2 : Int)]) ∧ w = w' := by
  obtain ⟨rfl, hc1, hc2⟩ := hl.lens
  have HL := Lib.hid hl
  have hlen : l.length ≤ 9223372036854775807 := by omega
  clear hc1 hc2
  clear hl
  go_enter Tryd.func64, Tryd.ntmps64
  go_wp2
  go_loop [5, 10] (fun n i => ∃ k acc : Nat, i = .int .i64 (k : Int) ∧ k ≤ l.length ∧ n = .int .u64 (acc : Int) ∧ acc < 128 ^ k ∧ k ≤ 9 ∧ getL l = getF k acc (l.drop k))
    (fun _ i => l.length - (intOf i).toNat)
  case atStart => exact ⟨0, 0, rfl, by omega, rfl, by decide, by omega, rfl⟩
  case round =>
    obtain ⟨k, acc, rfl, hk, rfl, hacc, hk9, hg⟩ := hrel
    have HG := Lib.hid hg
    have HA := Lib.hid hacc
    clear hg hacc
    by_cases hlt : k < l.length
    · have hcb : l[k] < 256 := HL.out.2 _ (List.getElem_mem hlt)
      obtain ⟨b, off, rfl, hcell⟩ := HL.out.1.get (bys_get hlt)
      have hdr := Lib.hid (drop_cons hlt)
      generalize hc : l[k] = x at hcb hcell hdr
      clear hc
      by_cases h9 : k = 9
      · have hb9 : ((k : Int) == 9) = true := by simp <;> omega
        by_cases hx : 1 < x
        · have e := HG.out
          rw [hdr.out, getF_over ⟨h9, hx⟩] at e
          have HE := Lib.hid e
          clear h9 e
          go_wp2
          go_ret3
          exact ⟨by rw [HE.out]; rfl, rfl⟩
        · by_cases hx0 : x = 0 ∧ 0 < k
          · have e := HG.out
            rw [hdr.out, getF_form (by omega) (by omega) hx0] at e
            have HE := Lib.hid e
            obtain ⟨rfl, hk0⟩ := hx0
            clear e h9
            go_wp2
            go_ret3
            exact ⟨by rw [HE.out]; rfl, rfl⟩
          · have e := HG.out
            rw [hdr.out, getF_end (by omega) (by omega) hx0] at e
            have HE := Lib.hid e
            have HW := Lib.hid (or_walk hk9 HA.out hcb (fun _ => by omega))
            have hz0 : ((x : Int) == 0) = false := by simp <;> omega
            have hx128 : x < 128 := by omega
            clear e h9
            go_wp2
            go_ret3
            exact ⟨by rw [HE.out, HW.out]; rfl, rfl⟩
      · have hb9 : ((k : Int) == 9) = false := by simp <;> omega
        have HW := Lib.hid (or_walk hk9 HA.out hcb (fun h => absurd h h9))
        by_cases hx : x < 128
        · by_cases hx0 : x = 0 ∧ 0 < k
          · have e := HG.out
            rw [hdr.out, getF_form (by omega) hx hx0] at e
            have HE := Lib.hid e
            obtain ⟨rfl, hk0⟩ := hx0
            clear e
            go_wp2
            go_ret3
            exact ⟨by rw [HE.out]; rfl, rfl⟩
          · have e := HG.out
            rw [hdr.out, getF_end (by omega) hx hx0] at e
            have HE := Lib.hid e
            clear e
            by_cases hz : x = 0
            · have hz0 : ((x : Int) == 0) = true := by simp <;> omega
              have hk0 : decide ((0 : Int) < (k : Int)) = false := by simp <;> omega
              have hk1 : decide (0 < k) = false := by simp <;> omega
              clear hz hx0
              go_wp2
              go_ret3
              exact ⟨by rw [HE.out, HW.out]; rfl, rfl⟩
            · have hz0 : ((x : Int) == 0) = false := by simp <;> omega
              go_wp2
              go_ret3
              exact ⟨by rw [HE.out, HW.out]; rfl, rfl⟩
        · have e := HG.out
          rw [hdr.out, getF_on (by omega) hx] at e
          have HE := Lib.hid e
          have HC := Lib.hid (show acc + x % 128 * 128 ^ k < 128 ^ (k + 1) by
            have h4 : x % 128 * 128 ^ k ≤ 127 * 128 ^ k := Nat.mul_le_mul_right _ (by omega)
            have := HA.out
            rw [Nat.pow_succ]
            omega)
          clear e
          go_wp2
          go_round
          case rel => exact ⟨k + 1, acc + x % 128 * 128 ^ k, by go_num, by omega, by rw [HW.out], HC.out, by omega, HE.out⟩
          case measure => simp [intOf]; omega
    · have e := HG.out
      rw [List.drop_eq_nil_of_le (by omega), getF_nil] at e
      have HE := Lib.hid e
      clear e
      go_wp2
      go_ret3
      exact ⟨by rw [HE.out]; rfl, rfl⟩
end Go.Proofs.YtmdbcknlipahgaaDoor
