/- The walk of sheet.Show. -/
import Derived.Test.YtmdbcknlipahgaaDoorShow
import Derived.Test.YtmdbcknlipahgaaDoorChkG
namespace Go.Proofs.YtmdbcknlipahgaaDoor
open Go.RowKit
theorem line_len {l : List Int} (h : ∀ n ∈ l, -9223372036854775808 ≤ n ∧ n ≤ 9223372036854775807) : (lineL l).length ≤ 22 * l.length + 1 := by
  rw [lineL_words, List.length_append]
  have := words_len l h
  simp
  exact this
theorem edges_len : ∀ (E : List Ge), (∀ e ∈ E, 0 ≤ e.1 ∧ e.1 ≤ 9223372036854775807 ∧ 0 ≤ e.2.1 ∧ e.2.1 ≤ 9223372036854775807 ∧ 0 ≤ e.2.2 ∧ e.2.2 ≤ 9223372036854775807) → (E.flatMap edgeL).length ≤ 67 * E.length
  | [], _ => by simp
  | e :: E, h => by
    rw [List.flatMap_cons, List.length_append, List.length_cons]
    have h1 := edges_len E (fun x hx => h x (by simp [hx]))
    have he := h e (by simp)
    have h2 : (edgeL e).length ≤ 22 * 3 + 1 := line_len (l := [e.1, e.2.1, e.2.2]) (by intro n hn; simp at hn; rcases hn with rfl | rfl | rfl <;> omega)
    omega
/-- a builder as it is made -/
theorem bld_new (w : World) : IsBld w.heap.size [] (w.alloc (.cells #[.pointer none, .slice none 0 0] 74)) :=
  .inl ⟨Nat.le_refl _, .slice none 0 0, heap_alloc_new w _, ⟨rfl, .inl ⟨rfl, rfl⟩⟩, (fun e => by cases e)⟩
theorem arg_new1 (w : World) (a : Int) : ArgI (w.alloc (.cells #[.int .i64 a] 3)) w.heap.size [a] := heap_alloc_new w _
theorem arg_new3 (w : World) (a b c : Int) : ArgI (w.alloc (.cells #[.int .i64 a, .int .i64 b, .int .i64 c] 3)) w.heap.size [a, b, c] := heap_alloc_new w _
/-- the answer of Show -/
def shF (N : Int) (E : List Ge) : ByteArray := if chkF N E = 0 then ⟨(showL N E).toArray⟩ else ⟨#[]⟩
set_option maxHeartbeats 4000000 in
set_option maxRecDepth 100000 in
theorem show_ok (N : Int) (hN1 : -9223372036854775808 ≤ N) (hN2 : N ≤ 9223372036854775807) (p : Option Addr) (n c : Nat) (E : List Ge) (w : World) (h : Sl w 3 (.slice p n c) n (ges E)) (ht : Tabs w) :
    Calls Tryd.prog 10 #[.agg #[.int .i64 N, .slice p n c]] w fun e w' => e = .returned (.tuple #[.string (shF N E), .int .i64 (chkF N E)]) ∧ Below w.heap.size w w' := by
  obtain ⟨hn, hnc, hc63⟩ := h.glen
  obtain ⟨b1, B1, z1⟩ := boxed0 w [.int .i64 N, .slice p n c] 24
  have HC := Lib.hid (fun (W : World) (hW : Below w.heap.size w W) => chkG_ok N hN1 hN2 p n c E W (h.later hW))
  have HL := Lib.hid h
  have HN := Lib.hid hn
  have HT := Lib.hid ht
  clear h hn ht
  generalize hw1 : (w.alloc (.cells #[.int .i64 N, .slice p n c] 24)) = w1 at *
  have HX := Lib.hid B1
  have HB := Lib.hid b1
  obtain ⟨hx0, hx1, _, _⟩ := HX.out.two
  clear b1 B1 z1
  go_enter Tryd.func10, Tryd.ntmps10
  go_upto_region 1 with fail
  clear hw1
  obtain ⟨g, hg⟩ : ∃ g, g = w.heap.size := ⟨_, rfl⟩
  rw [← hg] at HX hx0 hx1 ⊢
  clear hg
  go_wp2_with fail
  refine (HC.out _ HB.out).mono ?_; rintro e w2 ⟨rfl, hb2⟩
  have HB2 := Lib.hid (HB.out.trans (hb2.mono HB.out.size))
  have HX2 := Lib.hid (HX.out.next hb2)
  obtain ⟨hx0, hx1, _, _⟩ := HX2.out.two
  clear hb2 HC HX HB
  by_cases h0 : chkF N E = 0
  · obtain ⟨k1, k2, k3, k4⟩ := chk_ok h0
    have HK4 := Lib.hid k4
    have hn6 : n ≤ 600 := by have := HN.out; omega
    have HSF := Lib.hid (show shF N E = ⟨(showL N E).toArray⟩ from by unfold shF; rw [if_pos h0])
    have HC0 := Lib.hid h0
    rw [h0]
    clear h0 k4
    go_upto_region 6 with fail
    have HNB := Lib.hid (bld_new w2)
    have HT2 := Lib.hid (HT.out.later HB2.out)
    obtain ⟨b, hb⟩ : ∃ b, b = w2.heap.size := ⟨_, rfl⟩
    have hbz : w2.heap.size ≤ b := Nat.le_of_eq hb.symm
    have hgb : g < b := by rw [hb]; exact HX2.out.lt
    have hb1 : Below b w2 (w2.alloc (.cells #[.pointer none, .slice none 0 0] 74)) := by rw [hb]; exact alloc_below w2 _
    obtain ⟨w5, hw5⟩ : ∃ w5 : World, w5 = w2.alloc (.cells #[.pointer none, .slice none 0 0] 74) := ⟨_, rfl⟩
    have hs5 : w5.heap.size = b + 1 := by rw [hw5, hb]; simp
    rw [← hb] at HNB
    rw [← hw5] at HNB hb1 ⊢
    rw [← hb]
    have HB5 := Lib.hid hb1
    have HXB := Lib.hid (show ∀ W, Below b w2 W → W.cell? ⟨g, 0, none⟩ = some (.int .i64 N) ∧ W.cell? ⟨g, 1, none⟩ = some (.slice p n c) from fun W hW => ⟨(HX2.out.later hW hgb).two.1, (HX2.out.later hW hgb).two.2.1⟩)
    obtain ⟨hx0, hx1⟩ := HXB.out _ HB5.out
    have HWW := Lib.hid (show ∀ W, Below b w2 W → Below w.heap.size w W from fun W hW => HB2.out.trans (hW.mono (by rw [hb]; exact HB2.out.size)))
    have hA := arg_new1 w5 N
    have hbA : Below b w2 (w5.alloc (.cells #[.int .i64 N] 3)) := hb1.trans ((alloc_below w5 _).mono (by omega))
    have HL0 := Lib.hid (sline_ok b w5.heap.size 1 1 [N] [] w2 (w5.alloc (.cells #[.int .i64 N] 3)) (bld_later HNB.out (alloc_below w5 _)) hA (by omega) rfl (by omega) (Nat.le_refl _) (by omega) (by intro x hx; simp at hx; subst hx; omega) HT2.out hbz hbA (by simp))
    have HBA := Lib.hid hbA
    clear hb hw5 hb1 hA hbA HX2
    rw [hs5] at HL0
    go_wp2_with fail
    with_reducible refine HL0.out.mono ?_; rintro e w6 ⟨rfl, hh6, hb6⟩
    have HH6 := Lib.hid (show IsBld b (lineL [N] ++ ([] : List Ge).flatMap edgeL) w6 from by simpa using hh6)
    have HB6 := Lib.hid (HBA.out.trans hb6)
    obtain ⟨hx0, hx1⟩ := HXB.out _ HB6.out
    clear hh6 hb6 HL0 HBA HNB
    go_wp2_with fail
    go_loopg [23] n (fun gk v23 wr => ∃ k : Nat, v23 = .int .i64 (k : Int) ∧ k + gk = n ∧ Hid (IsBld b (lineL [N] ++ (E.take k).flatMap edgeL) wr) ∧ Hid (Below b w2 wr))
    case atStart => exact ⟨0, rfl, by omega, HH6, HB6⟩
    case round =>
      clear HH6 HB6 hx0 hx1
      obtain ⟨k, rfl, hgk, HH, HBB⟩ := hrel
      have HGK := Lib.hid hgk
      have hk : k ≤ n := by omega
      clear hgk
      by_cases hlt : k < n
      · have hkl : k < E.length := by have := HN.out; omega
        obtain ⟨bb, off, rfl, hc0, hc1, hc2⟩ := (HL.out.later (HWW.out _ HBB.out)).ge hkl
        have hx := HK4.out _ (List.getElem_mem hkl)
        have HTK := Lib.hid (show lineL [N] ++ (E.take (k + 1)).flatMap edgeL = (lineL [N] ++ (E.take k).flatMap edgeL) ++ edgeL E[k] from by
          rw [List.take_succ_eq_append_getElem hkl, List.flatMap_append]; simp)
        have hlen : (lineL [N] ++ (E.take k).flatMap edgeL).length ≤ 100000 := by
          have h1 := edges_len (E.take k) (fun e he => by have := HK4.out e (List.mem_of_mem_take he); omega)
          rw [List.length_take] at h1
          have h2 : (lineL [N]).length ≤ 22 * 1 + 1 := line_len (l := [N]) (by intro x hx; simp at hx; subst hx; omega)
          rw [List.length_append]; omega
        generalize E[k] = x at *
        obtain ⟨x1, x2, x3⟩ := x
        dsimp only at hc0 hc1 hc2 hx
        have hk0 : (0 : Int) ≤ (k : Int) := by omega
        have hkn : (k : Int) < (n : Int) := by omega
        have hd1 : decide ((k : Int) < (n : Int)) = true := by simp; omega
        have hd2 : decide (k < n) = true := by simp; omega
        have HLT := Lib.hid hlt
        clear hlt hkl
        go_upto_region 10 with fail
        obtain ⟨b8, B8, z8⟩ := boxed0 wr [.int .i64 x1, .int .i64 x2, .int .i64 x3] 84
        obtain ⟨w8, hw8⟩ : ∃ w8 : World, w8 = wr.alloc (.cells #[.int .i64 x1, .int .i64 x2, .int .i64 x3] 84) := ⟨_, rfl⟩
        obtain ⟨g8, hg8⟩ : ∃ g8, g8 = wr.heap.size := ⟨_, rfl⟩
        have e8 : (wr.alloc (.cells (List.toArray [Value.int .i64 x1, .int .i64 x2, .int .i64 x3]) 84)) = w8 := hw8.symm
        rw [e8] at b8 B8 z8
        rw [← hg8] at B8
        rw [← hw8, ← hg8]
        have hbs : b < wr.heap.size := HH.out.lt
        have HB8 := Lib.hid (HBB.out.trans (b8.mono (Nat.le_of_lt hbs)))
        have HH8 := Lib.hid (bld_later HH.out b8)
        obtain ⟨hy0, hy1, hy2, _⟩ := B8.three
        have hbs8 : b < w8.heap.size := HH8.out.lt
        have hA := arg_new3 w8 x1 x2 x3
        have HBA := Lib.hid (show Below b w2 (w8.alloc (.cells #[.int .i64 x1, .int .i64 x2, .int .i64 x3] 3)) from HB8.out.trans ((alloc_below w8 _).mono (Nat.le_of_lt hbs8)))
        have HLL := Lib.hid (sline_ok b w8.heap.size 3 3 [x1, x2, x3] _ w2 (w8.alloc (.cells #[.int .i64 x1, .int .i64 x2, .int .i64 x3] 3)) (bld_later HH8.out (alloc_below w8 _)) hA (by omega) rfl (by omega) (Nat.le_refl _) (by omega) (by intro x hx2; simp at hx2; rcases hx2 with rfl | rfl | rfl <;> omega) HT2.out hbz HBA.out (by omega))
        clear hw8 hg8 e8 b8 B8 z8 hc0 hc1 hc2 hd1 hd2 hA HH HBB
        go_wp2_with fail
        refine HLL.out.mono ?_; rintro e w9 ⟨rfl, hh9, hb9⟩
        have HH9 := Lib.hid (show IsBld b (lineL [N] ++ (E.take (k + 1)).flatMap edgeL) w9 from by rw [HTK.out]; exact hh9)
        have HB9 := Lib.hid (HBA.out.trans hb9)
        clear hh9 hb9 HLL HBA
        go_wp2_with fail
        go_roundg (n - (k + 1))
        case measure => have := HGK.out; have := HLT.out; omega
        case rel => exact ⟨k + 1, by go_num, by have := HLT.out; omega, HH9, HB9⟩
      · obtain rfl : k = n := by omega
        have hd1 : decide ((k : Int) < (k : Int)) = false := by simp
        have hd2 : decide (k < k) = false := by simp
        have hall : E.take k = E := List.take_of_length_le (by rw [← HN.out]; exact Nat.le_refl _)
        have hsh : lineL [N] ++ (E.take k).flatMap edgeL = showL N E := by rw [hall]; rfl
        rw [hsh] at HH
        have HST := Lib.hid (bstr_ok b (showL N E) wr HH.out (by unfold showL; rw [lineL_words]; simp))
        clear hlt hall hsh
        go_wp2_with fail
        refine HST.out.mono ?_; rintro e w9 ⟨rfl, hb9⟩
        have HB9 := Lib.hid (HWW.out _ (HBB.out.trans hb9))
        clear hb9
        go_wp2_with fail
        go_ret2
        exact ⟨by rw [HSF.out, HC0.out]; rfl, HB9.out⟩
  · have HSF := Lib.hid (show shF N E = ⟨#[]⟩ from by unfold shF; rw [if_neg h0])
    have hne : (chkF N E != 0) = true := by simp; exact h0
    obtain ⟨ce, hce⟩ : ∃ ce, ce = chkF N E := ⟨_, rfl⟩
    rw [← hce] at hne ⊢
    have HCE := Lib.hid hce
    clear h0 hce
    go_wp2_with fail
    go_ret2
    exact ⟨by rw [HSF.out, ← HCE.out]; rfl, HB2.out⟩
end Go.Proofs.YtmdbcknlipahgaaDoor
