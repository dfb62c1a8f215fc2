/- The walk of play.line. -/
import Derived.Test.YtmdbcknlipahgaaDoorForms
import Derived.Test.YtmdbcknlipahgaaDoorBld
import Derived.Test.YtmdbcknlipahgaaDoorBoxed
import Derived.Test.YtmdbcknlipahgaaDoorBx5
import Derived.Test.YtmdbcknlipahgaaDoorIdxA
namespace Go.Proofs.YtmdbcknlipahgaaDoor
open Go.RowKit
attribute [local go_sem] run_index_arr
/-- an answer as bytes -/
def bs (l : List UInt8) : ByteArray := ⟨l.toArray⟩
theorem bs_app (a b : List UInt8) : bs a ++ bs b = bs (a ++ b) := by
  apply ByteArray.ext
  show (bs a ++ bs b).data = _
  rw [ByteArray.data_append]
  simp [bs]
theorem bs_app1 (c : UInt8) (l : List UInt8) : bs [c] ++ bs l = bs (c :: l) := bs_app [c] l
theorem bs_sz (l : List UInt8) : (bs l).size = l.length := rfl
theorem bs_list (l : List UInt8) : (bs l).data.toList = l := by simp [bs]
set_option maxHeartbeats 4000000 in
set_option maxRecDepth 100000 in
theorem line_ok (m : Mv) (hm : MvIn m) (w : World) (ht : Tabs w) (hf : FormsAt w) :
    Calls Tryd.prog 36 #[.agg #[.int .i64 m.1, .int .i64 m.2.1, .int .i64 m.2.2]] w fun e w' => e = .returned (.tuple #[.string (bs (lineM m).1), .int .i64 (lineM m).2]) ∧ Below w.heap.size w w' := by
  obtain ⟨a, b, c⟩ := m
  dsimp only [MvIn] at hm ⊢
  obtain ⟨⟨ha1, ha2⟩, ⟨hb1, hb2⟩, hc1, hc2⟩ := hm
  have HT := Lib.hid ht
  have HF := Lib.hid hf
  have HLM := Lib.hid (show lineM (a, b, c) = lineM (a, b, c) from rfl)
  clear ht hf
  by_cases hk : a < 1 ∨ 8 < a
  · have HL := Lib.hid (show lineM (a, b, c) = ([], 3) from by unfold lineM; rw [if_pos hk])
    rcases Int.lt_or_le a 1 with h1 | h1
    · have hd1 : decide (a < 1) = true := decide_eq_true h1
      go_enter Tryd.func36, Tryd.ntmps36
      go_wp2_with fail
      go_ret2
      exact ⟨by rw [HL.out]; rfl, (Below.refl _ w).alloc (Nat.le_refl _) _⟩
    · have hd1 : decide (a < 1) = false := decide_eq_false (by omega)
      have hd2 : decide (a > 8) = true := decide_eq_true (by omega)
      have hd3 : decide (8 < a) = true := decide_eq_true (by omega)
      go_enter Tryd.func36, Tryd.ntmps36
      go_wp2_with fail
      go_ret2
      exact ⟨by rw [HL.out]; rfl, (Below.refl _ w).alloc (Nat.le_refl _) _⟩
  · obtain ⟨k, hk8, hak⟩ : ∃ k : Nat, k < 8 ∧ a - 1 = (k : Int) := ⟨(a - 1).toNat, by omega, by omega⟩
    have hd1 : decide (a < 1) = false := decide_eq_false (by omega)
    have hd2 : decide (a > 8) = false := decide_eq_false (by omega)
    have hd3 : decide (8 < a) = false := decide_eq_false (by omega)
    have hw1 : IntKind.i64.wrap (a - 1) = (k : Int) := by rw [hak, IntKind.wrap_i64]; omega
    have hk0 : (0 : Int) ≤ (k : Int) := by omega
    have hk1 : (k : Int) < 8 := by omega
    have HF2 := HF.out.later ((Below.refl _ w).alloc (Nat.le_refl _) (.cells #[.int .i64 a, .int .i64 b, .int .i64 c] 37))
    obtain ⟨hf0, hf1, hf2⟩ := forms_at HF2 hk8
    obtain ⟨F, hF⟩ : ∃ F, F = formF k := ⟨_, rfl⟩
    obtain ⟨wd, u, v⟩ := F
    unfold formW at hf0
    rw [← hF] at hf0 hf1 hf2
    dsimp only at hf0 hf1 hf2
    change World.cell? _ _ = some (.string (bs wd)) at hf0
    have HLB := Lib.hid (show badN u b ∨ badN v c → lineM (a, b, c) = ([], 2) from fun hb => by unfold lineM; dsimp only; rw [if_neg hk, show (a - 1).toNat = k from by omega, ← hF, if_pos hb])
    have HLO := Lib.hid (show ¬ badN u b → ¬ badN v c → lineM (a, b, c) = (wd ++ partL u b ++ partL v c ++ [10], 0) from fun h1 h2 => by unfold lineM; dsimp only; rw [if_neg hk, show (a - 1).toNat = k from by omega, ← hF, if_neg (fun h => h.elim h1 h2)])
    have HWD := Lib.hid (show wd.length ≤ 6 from by have := (form_len k).2; rw [← hF] at this; exact this)
    clear hF
    go_enter Tryd.func36, Tryd.ntmps36
    go_upto_region 4 with fail
    obtain ⟨W1, hW1⟩ : ∃ W1 : World, W1 = ((w.alloc (.cells #[.int .i64 a, .int .i64 b, .int .i64 c] 37)).alloc (.cells #[.string (bs wd), .bool u, .bool v] 130)) := ⟨_, rfl⟩
    have HX1 := Lib.hid (show Bx W1 w.heap.size [.int .i64 a, .int .i64 b, .int .i64 c] from by rw [hW1]; exact (bx_new w [.int .i64 a, .int .i64 b, .int .i64 c] _).alloc _)
    have HX2 := Lib.hid (show Bx W1 (w.heap.size + 1) [.string (bs wd), .bool u, .bool v] from by rw [hW1]; have := bx_new (w.alloc (.cells #[.int .i64 a, .int .i64 b, .int .i64 c] 37)) [.string (bs wd), .bool u, .bool v] 130; rw [World.size_alloc] at this; exact this)
    have HB1 := Lib.hid (show Below w.heap.size w W1 from by rw [hW1]; exact ((Below.refl _ w).alloc (Nat.le_refl _) _).alloc (by simp) _)
    rw [← hW1]
    clear hW1 hf0 hf1 hf2 HF2 hd1 hd2 hd3 hw1 hk0 hk1
    obtain ⟨hx0, hx1, hx2, _⟩ := HX1.out.three
    obtain ⟨hy0, hy1, hy2, _⟩ := HX2.out.three
    go_wp2_with fail
    go_loopg [34, 5, 2, 3] 2 (fun gk v34 v5 v2 v3 wr => ∃ (j : Nat) (pre : List UInt8), v34 = .int .i64 (j : Int) ∧ j + gk = 2 ∧ v5 = .string (bs pre) ∧ Hid ((j = 0 ∧ pre = wd) ∨ (j = 1 ∧ pre = wd ++ partL u b ∧ ¬ badN u b) ∨ (j = 2 ∧ pre = wd ++ partL u b ++ partL v c ∧ ¬ badN u b ∧ ¬ badN v c)) ∧ Hid (Below w.heap.size w wr))
    case atStart => exact ⟨0, wd, rfl, rfl, rfl, Lib.hid (.inl ⟨rfl, rfl⟩), HB1⟩
    case round =>
      obtain ⟨j, pre, rfl, hgk, rfl, HJ, HB⟩ := hrel
      clear HB1 HX1 HX2 hx0 hx1 hx2 hy0 hy1 hy2
      rcases HJ.out with ⟨rfl, rfl⟩ | ⟨rfl, rfl, hn1⟩ | ⟨rfl, hpz, hn1, hn2⟩
      · -- round 0
        by_cases hn : b < 0
        · have hd1 : decide (b < 0) = true := decide_eq_true hn
          have hbad : badN u b := .inl hn
          clear hn
          go_wp2_with fail
          go_ret2
          exact ⟨by rw [HLB.out (.inl hbad)]; rfl, HB.out.alloc (by have := HB.out.size; omega) _⟩
        · have hd1 : decide (b < 0) = false := decide_eq_false hn
          by_cases hx : 1152921504606846976 < b
          · have hd2 : decide (1152921504606846976 < b) = true := decide_eq_true hx
            have hd3 : decide (b > 1152921504606846976) = true := decide_eq_true hx
            have hbad : badN u b := .inr (.inl hx)
            clear hn hx
            go_wp2_with fail
            go_ret2
            exact ⟨by rw [HLB.out (.inl hbad)]; rfl, HB.out.alloc (by have := HB.out.size; omega) _⟩
          · have hd2 : decide (1152921504606846976 < b) = false := decide_eq_false hx
            have hd3 : decide (b > 1152921504606846976) = false := decide_eq_false hx
            cases u with
            | true =>
              have hok : ¬ badN true b := by unfold badN; simp; omega
              have HIT := Lib.hid (fun (W : World) (hW : Below w.heap.size w W) => itoa_ok b hb1 hb2 W (HT.out.later hW))
              have HBA := Lib.hid (HB.out.alloc (by have := HB.out.size; omega) (.cells #[.bool true, .int .i64 b] 132))
              have hl0 : (Lib.itoa b).length ≤ 19 := itoa_len (by omega) 19 (by omega) (by omega)
              have hl1 : 1 + (Lib.itoa b).length ≤ 9223372036854775807 := by omega
              have hl2 : ¬ (9223372036854775807 < 1 + (Lib.itoa b).length) := by omega
              have hl3 : (bs pre).size + (1 + (Lib.itoa b).length) ≤ 9223372036854775807 := by rw [bs_sz]; have := HWD.out;  omega
              have hl4 : ¬ (9223372036854775807 < (bs pre).size + (1 + (Lib.itoa b).length)) := by omega
              clear hn hx
              go_wp2_with fail
              refine (HIT.out _ HBA.out).mono ?_; rintro e w2 ⟨rfl, hb2⟩
              have HB2 := Lib.hid (HBA.out.trans (hb2.mono HBA.out.size))
              clear hb2
              go_wp2_with fail
              go_roundg 1
              case measure => omega
              case rel => exact ⟨1, pre ++ partL true b, by go_num, by omega, by rw [show partL true b = 32 :: Lib.itoa b from rfl]; exact congrArg Value.string (by rw [← bs_app pre (32 :: Lib.itoa b), ← bs_app1]; rfl), Lib.hid (.inr (.inl ⟨rfl, rfl, hok⟩)), HB2⟩
            | false =>
              by_cases h0 : b = 0
              · subst h0
                have hok : ¬ badN false 0 := by unfold badN; simp
                have HBA := Lib.hid (HB.out.alloc (by have := HB.out.size; omega) (.cells #[.bool false, .int .i64 0] 132))
                go_wp2_with fail
                go_roundg 1
                case measure => omega
                case rel => exact ⟨1, pre ++ partL false 0, by go_num, by omega, by rw [show partL false 0 = [] from rfl, List.append_nil], Lib.hid (.inr (.inl ⟨rfl, rfl, hok⟩)), HBA⟩
              · have hd4 : (b != 0) = true := by simpa using h0
                have hd5 : (b == 0) = false := by simpa using h0
                have hd6 : decide (b = 0) = false := decide_eq_false h0
                have hbad : badN false b := .inr (.inr ⟨rfl, h0⟩)
                clear hn hx h0
                go_wp2_with fail
                go_ret2
                exact ⟨by rw [HLB.out (.inl hbad)]; rfl, HB.out.alloc (by have := HB.out.size; omega) _⟩
      · -- round 1
        by_cases hn : c < 0
        · have hd1 : decide (c < 0) = true := decide_eq_true hn
          have hbad : badN v c := .inl hn
          clear hn
          go_wp2_with fail
          go_ret2
          exact ⟨by rw [HLB.out (.inr hbad)]; rfl, HB.out.alloc (by have := HB.out.size; omega) _⟩
        · have hd1 : decide (c < 0) = false := decide_eq_false hn
          by_cases hx : 1152921504606846976 < c
          · have hd2 : decide (1152921504606846976 < c) = true := decide_eq_true hx
            have hd3 : decide (c > 1152921504606846976) = true := decide_eq_true hx
            have hbad : badN v c := .inr (.inl hx)
            clear hn hx
            go_wp2_with fail
            go_ret2
            exact ⟨by rw [HLB.out (.inr hbad)]; rfl, HB.out.alloc (by have := HB.out.size; omega) _⟩
          · have hd2 : decide (1152921504606846976 < c) = false := decide_eq_false hx
            have hd3 : decide (c > 1152921504606846976) = false := decide_eq_false hx
            cases v with
            | true =>
              have hok : ¬ badN true c := by unfold badN; simp; omega
              have HIT := Lib.hid (fun (W : World) (hW : Below w.heap.size w W) => itoa_ok c hc1 hc2 W (HT.out.later hW))
              have HBA := Lib.hid (HB.out.alloc (by have := HB.out.size; omega) (.cells #[.bool true, .int .i64 c] 132))
              have hl0 : (Lib.itoa c).length ≤ 19 := itoa_len (by omega) 19 (by omega) (by omega)
              have hl1 : 1 + (Lib.itoa c).length ≤ 9223372036854775807 := by omega
              have hl2 : ¬ (9223372036854775807 < 1 + (Lib.itoa c).length) := by omega
              have hl3 : (bs (wd ++ partL u b)).size + (1 + (Lib.itoa c).length) ≤ 9223372036854775807 := by rw [bs_sz]; have := HWD.out; rw [List.length_append]; have := part_len u hn1; omega
              have hl4 : ¬ (9223372036854775807 < (bs (wd ++ partL u b)).size + (1 + (Lib.itoa c).length)) := by omega
              clear hn hx
              go_wp2_with fail
              refine (HIT.out _ HBA.out).mono ?_; rintro e w2 ⟨rfl, hb2⟩
              have HB2 := Lib.hid (HBA.out.trans (hb2.mono HBA.out.size))
              clear hb2
              go_wp2_with fail
              go_roundg 0
              case measure => omega
              case rel => exact ⟨2, (wd ++ partL u b) ++ partL true c, by go_num, by omega, by rw [show partL true c = 32 :: Lib.itoa c from rfl]; exact congrArg Value.string (by rw [← bs_app (wd ++ partL u b) (32 :: Lib.itoa c), ← bs_app1]; rfl), Lib.hid (.inr (.inr ⟨rfl, rfl, hn1, hok⟩)), HB2⟩
            | false =>
              by_cases h0 : c = 0
              · subst h0
                have hok : ¬ badN false 0 := by unfold badN; simp
                have HBA := Lib.hid (HB.out.alloc (by have := HB.out.size; omega) (.cells #[.bool false, .int .i64 0] 132))
                go_wp2_with fail
                go_roundg 0
                case measure => omega
                case rel => exact ⟨2, (wd ++ partL u b) ++ partL false 0, by go_num, by omega, by rw [show partL false 0 = [] from rfl, List.append_nil], Lib.hid (.inr (.inr ⟨rfl, rfl, hn1, hok⟩)), HBA⟩
              · have hd4 : (c != 0) = true := by simpa using h0
                have hd5 : (c == 0) = false := by simpa using h0
                have hd6 : decide (c = 0) = false := decide_eq_false h0
                have hbad : badN false c := .inr (.inr ⟨rfl, h0⟩)
                clear hn hx h0
                go_wp2_with fail
                go_ret2
                exact ⟨by rw [HLB.out (.inr hbad)]; rfl, HB.out.alloc (by have := HB.out.size; omega) _⟩
      · have HLL := Lib.hid (show lineM (a, b, c) = (pre ++ [10], 0) from by rw [HLO.out hn1 hn2, hpz])
        have hl3 : (bs pre).size + 1 ≤ 9223372036854775807 := by rw [bs_sz, hpz, List.length_append, List.length_append]; have := HWD.out; have := part_len u hn1; have := part_len v hn2; omega
        have hl4 : ¬ (9223372036854775807 < (bs pre).size + 1) := by omega
        clear hpz HLO HLB HJ
        go_wp2_with fail
        go_ret2
        exact ⟨by rw [HLL.out]; exact congrArg (fun x => Ending.returned (.tuple #[.string x, .int .i64 0])) (bs_app _ [10]), HB.out⟩
end Go.Proofs.YtmdbcknlipahgaaDoor
