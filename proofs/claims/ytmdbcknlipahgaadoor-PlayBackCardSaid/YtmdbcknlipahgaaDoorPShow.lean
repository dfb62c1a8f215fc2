/- The walk of play.Show at moves that have lines. -/
import Derived.Test.YtmdbcknlipahgaaDoorPLine
import Derived.Test.YtmdbcknlipahgaaDoorShowG
namespace Go.Proofs.YtmdbcknlipahgaaDoor
open Go.RowKit
/-- a move that may be shown -/
def MvOk (m : Mv) : Prop := MvIn m ∧ OkM m
theorem wstr_bs (b : Nat) (l x : List UInt8) (w : World) (h : IsBld b l w) (hl : l.length ≤ 1000000000) (hx : x.length ≤ 1000000000) :
    Calls Tryd.prog 30 #[.pointer (some ⟨b, 0, none⟩), .string (bs x)] w fun e w' => (∃ v, e = .returned v) ∧ IsBld b (l ++ x) w' ∧ Below b w w' ∧ Lib.OthersKept 5 (some b) w w' := wstr_ok b l x w h hl hx
theorem showM_snoc (l : List Mv) (m : Mv) : showM (l ++ [m]) = showM l ++ (lineM m).1 := by unfold showM; simp
theorem showM_ne {l : List Mv} (hl : l ≠ []) (h : ∀ m ∈ l, OkM m) : showM l ≠ [] := by
  cases l with
  | nil => exact absurd rfl hl
  | cons m l =>
    obtain ⟨b, hb, _⟩ := line_no (h m (by simp))
    show (lineM m).1 ++ showM l ≠ []
    rw [hb]; simp
set_option maxHeartbeats 4000000 in
set_option maxRecDepth 100000 in
theorem mshow_ok (p : Option Addr) (n c : Nat) (l : List Mv) (w : World) (h : Sl w 3 (.slice p n c) n (ges l)) (hl : ∀ m ∈ l, MvOk m) (hn : n ≤ 100000) (ht : Tabs w) (hf : FormsAt w) :
    Calls Tryd.prog 15 #[.slice p n c] w fun e w' => e = .returned (.tuple #[.string (bs (showM l)), .int .i64 0]) ∧ Below w.heap.size w w' := by
  obtain ⟨hnl, hnc, hc63⟩ := h.glen
  have HL := Lib.hid h
  have HN := Lib.hid hnl
  have HT := Lib.hid ht
  have HF := Lib.hid hf
  have HK := Lib.hid hl
  clear h hnl ht hf hl
  have hd0 : decide ((n : Int) > 100000) = false := decide_eq_false (by omega)
  have hd00 : decide (100000 < n) = false := decide_eq_false (by omega)
  have hd000 : decide ((100000 : Int) < (n : Int)) = false := decide_eq_false (by omega)
  go_enter Tryd.func15, Tryd.ntmps15
  go_upto_region 4 with fail
  have HNB := Lib.hid (bld_new w)
  have HB1 := Lib.hid (alloc_below w (.cells #[.pointer none, .slice none 0 0] 74))
  obtain ⟨w5, hw5⟩ : ∃ w5 : World, w5 = w.alloc (.cells #[.pointer none, .slice none 0 0] 74) := ⟨_, rfl⟩
  rw [← hw5] at HNB HB1 ⊢
  clear hw5 hd0 hd00 hd000
  go_wp2_with fail
  go_loopg [14] n (fun gk v14 wr => ∃ k : Nat, v14 = .int .i64 (k : Int) ∧ k + gk = n ∧ Hid (IsBld w.heap.size (showM (l.take k)) wr) ∧ Hid (Below w.heap.size w wr))
  case atStart => exact ⟨0, rfl, by omega, HNB, HB1⟩
  case round =>
    clear HNB HB1
    obtain ⟨k, rfl, hgk, HH, HB⟩ := hrel
    have HGK := Lib.hid hgk
    have hk : k ≤ n := by omega
    clear hgk
    by_cases hlt : k < n
    · have hkl : k < l.length := by have := HN.out; omega
      obtain ⟨bb, off, rfl, hc0, hc1, hc2⟩ := (HL.out.later HB.out).ge hkl
      have hx := HK.out _ (List.getElem_mem hkl)
      have HTK := Lib.hid (show showM (l.take (k + 1)) = showM (l.take k) ++ (lineM l[k]).1 from by rw [List.take_succ_eq_append_getElem hkl]; exact showM_snoc _ _)
      have HLEN := Lib.hid (show (showM (l.take k)).length ≤ 1000000000 from by
        have h1 := show_len (l.take k) (fun m hm => (HK.out m (List.mem_of_mem_take hm)).2)
        rw [List.length_take] at h1
        have : min k l.length ≤ 100000 := by omega
        omega)
      generalize l[k] = x at *
      obtain ⟨x1, x2, x3⟩ := x
      dsimp only at hc0 hc1 hc2
      have HBA := Lib.hid (HB.out.alloc (by have := HB.out.size; omega) (.cells #[.int .i64 x1, .int .i64 x2, .int .i64 x3] 37))
      have HHA := Lib.hid (bld_later HH.out (alloc_below wr (.cells #[.int .i64 x1, .int .i64 x2, .int .i64 x3] 37)))
      have HLI := Lib.hid (line_ok (x1, x2, x3) hx.1 _ (HT.out.later HBA.out) (HF.out.later HBA.out))
      have HLE := Lib.hid (show (lineM (x1, x2, x3)).1.length ≤ 47 from line_len50 hx.2)
      have HOK := hx.2
      unfold OkM at HOK
      rw [HOK] at HLI
      dsimp only at HLI
      generalize (lineM (x1, x2, x3)).1 = li at *
      have hk0 : (0 : Int) ≤ (k : Int) := by omega
      have hkn : (k : Int) < (n : Int) := by omega
      have hd1 : decide ((k : Int) < (n : Int)) = true := by simp; omega
      have hd2 : decide (k < n) = true := by simp; omega
      have HLT := Lib.hid hlt
      clear hlt hkl hx HOK
      go_wp2_with fail
      refine HLI.out.mono ?_; rintro e w2 ⟨rfl, hb2⟩
      have HH2 := Lib.hid (bld_later HHA.out hb2)
      have HB2 := Lib.hid (HBA.out.trans (hb2.mono HBA.out.size))
      have HWS := Lib.hid (wstr_bs w.heap.size _ li w2 HH2.out HLEN.out (by have := HLE.out; omega))
      clear hb2 HLI HH HHA HBA hc0 hc1 hc2
      go_wp2_with fail
      with_reducible refine HWS.out.mono ?_; rintro e w3 ⟨⟨v3, rfl⟩, hh3, hb3, _⟩
      have HH3 := Lib.hid (show IsBld w.heap.size (showM (l.take (k + 1))) w3 from by rw [HTK.out]; exact hh3)
      have HB3 := Lib.hid (HB2.out.trans hb3)
      clear hh3 hb3 HWS
      go_wp2_with fail
      go_roundg (n - (k + 1))
      case measure => have := HGK.out; have := HLT.out; omega
      case rel => exact ⟨k + 1, by go_num, by have := HLT.out; omega, HH3, HB3⟩
    · obtain rfl : k = n := by omega
      have hd1 : decide ((k : Int) < (k : Int)) = false := by simp
      have hd2 : decide (k < k) = false := by simp
      have hall : l.take k = l := List.take_of_length_le (by rw [← HN.out]; exact Nat.le_refl _)
      rw [hall] at HH
      by_cases h0 : l = []
      · have HST := Lib.hid (bstr0_ok w.heap.size wr (by have := HH.out; rw [h0] at this; exact this))
        have HSM := Lib.hid (show bs (showM l) = ⟨#[]⟩ from by rw [h0]; rfl)
        clear hlt hall h0
        go_wp2_with fail
        refine HST.out.mono ?_; rintro e w9 ⟨rfl, hb9⟩
        have HB9 := Lib.hid (HB.out.trans hb9)
        clear hb9
        go_wp2_with fail
        go_ret2
        exact ⟨by rw [HSM.out]; rfl, HB9.out⟩
      · have HST := Lib.hid (bstr_ok w.heap.size (showM l) wr HH.out (showM_ne h0 (fun m hm => (HK.out m hm).2)))
        clear hlt hall h0
        go_wp2_with fail
        refine HST.out.mono ?_; rintro e w9 ⟨rfl, hb9⟩
        have HB9 := Lib.hid (HB.out.trans hb9)
        clear hb9
        go_wp2_with fail
        go_ret2
        exact ⟨rfl, HB9.out⟩
end Go.Proofs.YtmdbcknlipahgaaDoor
