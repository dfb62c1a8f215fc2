/- strings.Lines: what its iterator hands on. -/
import Derived.Test.YtmdbcknlipahgaaDoorRangeB
import Derived.Test.YtmdbcknlipahgaaDoorShelfS
import Derived.Shelf.Abstract
import Derived.Shelf.RegionOpen
import Derived.WalkKit
import Derived.OwnWalkIn
import Derived.TacticsInMore
import Derived.LoopNIn
import Derived.LoopIn
import Derived.Sort.LoopGhostIn
import Derived.Sort.CutIn
namespace Go.Proofs.YtmdbcknlipahgaaDoor
open Go.RowKit Go.Shelf Go.Proofs
attribute [local go_sem] Oper.semAt_some
theorem idx_cases : ∀ (l : List UInt8), (Lib.indexByte l 10 = -1 ∧ ∀ x ∈ l, x ≠ 10) ∨ ∃ a t, l = a ++ 10 :: t ∧ (∀ x ∈ a, x ≠ 10) ∧ Lib.indexByte l 10 = (a.length : Int)
  | [] => .inl ⟨rfl, fun x hx => by cases hx⟩
  | c :: l => by
    by_cases hc : c = 10
    · subst hc
      exact .inr ⟨[], l, rfl, (fun x hx => by cases hx), by unfold Lib.indexByte; rw [if_pos (by decide)]; rfl⟩
    · rcases idx_cases l with ⟨h1, h2⟩ | ⟨a, t, rfl, h2, h3⟩
      · left
        refine ⟨by unfold Lib.indexByte; rw [if_neg (by simpa using hc), h1, if_pos (by decide)], fun x hx => ?_⟩
        rcases List.mem_cons.1 hx with rfl | hx
        · exact hc
        · exact h2 x hx
      · right
        refine ⟨c :: a, t, rfl, fun x hx => ?_, ?_⟩
        · rcases List.mem_cons.1 hx with rfl | hx
          · exact hc
          · exact h2 x hx
        · unfold Lib.indexByte
          rw [if_neg (by simpa using hc), h3, if_neg (by simp <;> omega)]
          simp
theorem take_end (a t : List UInt8) : (a ++ 10 :: t).take (a.length + 1) = a ++ [10] := by
  rw [show a ++ 10 :: t = (a ++ [10]) ++ t by simp, show a.length + 1 = (a ++ [10]).length by simp, List.take_left]
/-- the lines of a text -/
def LinesOf (s : ByteArray) (xs : List ByteArray) : Prop := xs.map (·.data.toList) = linesL s.data.toList
theorem lines_are (l : List (List UInt8)) : (l.map fun x => (⟨x.toArray⟩ : ByteArray)).map (·.data.toList) = l := by
  rw [List.map_map]
  conv => rhs; rw [← List.map_id l]
  exact List.map_congr_left (fun x _ => rfl)
/-- Lines hands back an iterator over a box that holds the text -/
theorem lines_fn (s : ByteArray) (w : World) : Calls Tryd.prog 34 #[.string s] w fun e w' => e = .returned (.func (.func 56) #[] #[.pointer (some ⟨w.heap.size, 0, none⟩)]) ∧ w' = w.alloc (.cells #[.string s] 9) := by
  go_enter Tryd.func34, Tryd.ntmps34
  go_wp2_with fail
  go_ret
  exact ⟨rfl, rfl⟩
set_option maxHeartbeats 4000000 in
set_option maxRecDepth 100000 in
theorem lines_seq (n : Nat) (hn : 1 ≤ n) (s : ByteArray) (hs : s.size ≤ 100000000) (b : Nat) :
    BoxSeq Fence.wide n Tryd.prog 56 b (fun x : ByteArray => Value.string x) (LinesOf s) (.cells #[.string s] 9 (0, 0)) := fun l J Jx W hb hJb hY h0 => by
  refine callsIn_of_wp Tryd.func56 rfl trivial ?_ rfl
  simp only [Tryd.ntmps56, List.size_toArray, List.length_cons, List.length_nil, Nat.reduceAdd, Nat.reduceSub, Array.replicate_succ, Array.replicate_zero, List.push_toArray, List.append_toArray, List.nil_append, List.cons_append]
  gi_wp2
  gi_loopg [3, 4] s.size (fun gk v3 v4 wr => ∃ (pre : List ByteArray) (rest : ByteArray), gk = rest.size ∧ rest.size ≤ s.size ∧ Hid (pre.map (·.data.toList) ++ linesL rest.data.toList = linesL s.data.toList) ∧ Hid (J pre wr) ∧ Hid (wr.heap[b]? = some (.cells #[.string rest] 9 (0, 0))))
  case atStart => exact ⟨[], s, rfl, Nat.le_refl _, Lib.hid rfl, Lib.hid h0, Lib.hid hb⟩
  case round =>
    obtain ⟨pre, rest, hgk, hrs, HL, HJ, HB⟩ := hrel
    have hc : wr.cell? ⟨b, 0, none⟩ = some (.string rest) := by rw [cell_of_row wr b 0 _ _ _ HB.out]; rfl
    have hf : wr.frozen? ⟨b, 0, none⟩ = false := by simp [World.frozen?, HB.out]
    have HR := Lib.hid hgk
    clear hgk h0 hb
    by_cases h0 : rest.size = 0
    · have hnil : rest.data.toList = [] := List.eq_nil_of_length_eq_zero (by rw [← Lib.size_eq]; exact h0)
      have hd1 : decide ((0 : Int) < (rest.size : Int)) = false := decide_eq_false (by omega)
      have hd2 : decide (0 < rest.size) = false := decide_eq_false (by omega)
      gi_wp2
      go_end0
      refine ⟨⟨_, rfl⟩, .inl ⟨pre, ?_, HJ.out⟩⟩
      have h1 := HL.out
      rw [hnil] at h1
      unfold LinesOf
      rw [← h1]
      show _ = _ ++ linesL []
      rw [show linesL [] = [] from rfl, List.append_nil]
    · have hd1 : decide ((0 : Int) < (rest.size : Int)) = true := decide_eq_true (by omega)
      have hd2 : decide (0 < rest.size) = true := decide_eq_true (by omega)
      have hne : rest.data.toList ≠ [] := fun e => h0 (by rw [Lib.size_eq, e]; rfl)
      rcases idx_cases rest.data.toList with ⟨hix, hno⟩ | ⟨a, t, hat, hno, hix⟩
      · have HIC : Calls Tryd.prog 57 #[.string rest, .int .u8 10] wr fun e w' => e = .returned (.int .i64 (-1)) ∧ wr = w' :=
          (show Calls Tryd.prog 57 _ _ _ from Any.strings_IndexByte layIndexByte rest 10 wr).mono (by rintro e w' ⟨rfl, rfl⟩; exact ⟨by rw [← hix]; rfl, rfl⟩)
        have hlast := linesL_last rest.data.toList hne hno
        have hg := grown_set (w := wr) (s := b) (i := 0) (u := .string ⟨#[]⟩)
        have hB2 : (wr.setCell ⟨b, 0, none⟩ (.string ⟨#[]⟩)).heap[b]? = some (.cells #[.string ⟨#[]⟩] 9 (0, 0)) := heap_setCell_same wr b 0 #[.string rest] _ _ HB.out
        have hJ2 := hJb _ _ _ HJ.out hg
        obtain ⟨fn, tmps, assign, body, hy, hR⟩ := hY pre rest _ hJ2 ⟨[], by unfold LinesOf; rw [← HL.out, hlast]; simp⟩
        have HLN := Lib.hid (show (pre ++ [rest]).map (·.data.toList) ++ linesL (⟨#[]⟩ : ByteArray).data.toList = linesL s.data.toList from by
          rw [← HL.out, hlast]; simp; rfl)
        clear hlast hg hno
        gi_wp2_with (refine ⟨trivial, ?_⟩; gi_at_call 57; refine (callsIn_wide.2 HIC).mono ?_; rintro e w' ⟨rfl, rfl⟩)
        refine hR.mono ?_
        rintro e W3 (⟨rfl, hJ3, hk3⟩ | ⟨rfl, hJx3⟩)
        · gi_wp2
          gi_roundg 0
          case measure => have := HR.out; omega
          case rel => exact ⟨pre ++ [rest], ⟨#[]⟩, rfl, Nat.zero_le _, HLN, Lib.hid hJ3, Lib.hid (hk3.trans hB2)⟩
        · gi_wp2
          refine bodyPost_ret (results_none rfl _ _ _) rfl ?_
          exact ⟨⟨_, rfl⟩, .inr ⟨_, hJx3⟩⟩
      · have HIC : Calls Tryd.prog 57 #[.string rest, .int .u8 10] wr fun e w' => e = .returned (.int .i64 (a.length : Int)) ∧ wr = w' :=
          (show Calls Tryd.prog 57 _ _ _ from Any.strings_IndexByte layIndexByte rest 10 wr).mono (by rintro e w' ⟨rfl, rfl⟩; exact ⟨by rw [← hix]; rfl, rfl⟩)
        have hsz : rest.size = a.length + 1 + t.length := by rw [Lib.size_eq, hat]; simp; omega
        obtain ⟨ia, hia⟩ : ∃ ia, ia = a.length := ⟨_, rfl⟩
        rw [← hia] at HIC hsz
        have hlt1 : (0 : Int) ≤ (ia : Int) := by omega
        have hlt2 : (ia : Int) + 1 ≤ (rest.size : Int) := by omega
        have hlt3 : (0 : Int) ≤ (ia : Int) + 1 := by omega
        have hgi : decide ((0 : Int) ≤ (ia : Int)) = true := decide_eq_true hlt1
        have HIA := Lib.hid hia
        have HSZ := Lib.hid hsz
        have HLL := Lib.hid (show linesL rest.data.toList = (a ++ [10]) :: linesL t from by rw [hat]; exact linesL_line a t hno)
        have HD1 := Lib.hid (show (rest.extract 0 (ia + 1)).data.toList = a ++ [10] from by
          rw [Lib.extract_from_zero, hat, hia]
          exact take_end a t)
        have HD2 := Lib.hid (show (rest.extract (ia + 1) rest.size).data.toList = t from by
          rw [Lib.extract_to_end, hat, hia]; simp)
        clear hia hsz hat hno hix
        gi_wp2_with (refine ⟨trivial, ?_⟩; gi_at_call 57; refine (callsIn_wide.2 HIC).mono ?_; rintro e w' ⟨rfl, rfl⟩)
        gi_region
        have hg : wr.grownBy (wr.setCell ⟨b, 0, none⟩ (.string (rest.extract (ia + 1) rest.size))).drew (some b) := grown_trans (grown_set (w := wr) (s := b) (i := 0) (u := .string (rest.extract (ia + 1) rest.size))) ⟨rfl, rfl, rfl, Nat.le_refl _, fun _ _ _ => rfl⟩
        have hB2 : (wr.setCell ⟨b, 0, none⟩ (.string (rest.extract (ia + 1) rest.size))).drew.heap[b]? = some (.cells #[.string (rest.extract (ia + 1) rest.size)] 9 (0, 0)) := heap_setCell_same wr b 0 #[.string rest] _ _ HB.out
        have hJ2 := hJb _ _ _ HJ.out hg
        obtain ⟨fn, tmps, assign, body, hy, hR⟩ := hY pre (rest.extract 0 (ia + 1)) _ hJ2 ⟨(linesL t).map fun x => ⟨x.toArray⟩, by
          unfold LinesOf
          rw [List.map_append, List.map_cons, lines_are, HD1.out, ← HL.out, HLL.out]⟩
        have HLN := Lib.hid (show (pre ++ [rest.extract 0 (ia + 1)]).map (·.data.toList) ++ linesL (rest.extract (ia + 1) rest.size).data.toList = linesL s.data.toList from by
          rw [← HL.out, HLL.out, HD2.out, List.map_append, List.map_cons, List.map_nil, HD1.out]; simp)
        have HR2 := Lib.hid (show (rest.extract (ia + 1) rest.size).size < rest.size from by rw [ByteArray.size_extract]; omega)
        clear hg
        gi_wp2
        refine hR.mono ?_
        rintro e W3 (⟨rfl, hJ3, hk3⟩ | ⟨rfl, hJx3⟩)
        · gi_wp2
          gi_roundg (rest.extract (ia + 1) rest.size).size
          case measure => have := HR.out; have := HR2.out; omega
          case rel => exact ⟨pre ++ [rest.extract 0 (ia + 1)], rest.extract (ia + 1) rest.size, rfl, by have := HR2.out; omega, HLN, Lib.hid hJ3, Lib.hid (hk3.trans hB2)⟩
        · gi_wp2
          refine bodyPost_ret (results_none rfl _ _ _) rfl ?_
          exact ⟨⟨_, rfl⟩, .inr ⟨_, hJx3⟩⟩
end Go.Proofs.YtmdbcknlipahgaaDoor
