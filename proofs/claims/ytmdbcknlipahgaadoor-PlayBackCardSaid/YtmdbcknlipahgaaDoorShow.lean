/- The walk of the closure of sheet.Show, that writes a line. -/
import Derived.Test.YtmdbcknlipahgaaDoorBld
import Derived.Test.YtmdbcknlipahgaaDoorPSheet
import Derived.Lib.ItoaLen
namespace Go.Proofs.YtmdbcknlipahgaaDoor
open Go.RowKit
theorem words_snoc : ∀ (l : List Int) (n : Int), l ≠ [] → wordsL (l ++ [n]) = wordsL l ++ 32 :: Lib.itoa n
  | [], _, h => absurd rfl h
  | [_], _, _ => rfl
  | a :: b :: l, n, _ => by
    show Lib.itoa a ++ 32 :: wordsL ((b :: l) ++ [n]) = (Lib.itoa a ++ 32 :: wordsL (b :: l)) ++ 32 :: Lib.itoa n
    rw [words_snoc (b :: l) n (by simp)]
    simp
theorem words_len : ∀ (l : List Int), (∀ n ∈ l, -9223372036854775808 ≤ n ∧ n ≤ 9223372036854775807) → (wordsL l).length ≤ 22 * l.length
  | [], _ => by simp [wordsL]
  | [n], h => by
    have := Lib.itoa_length_le n (h n (by simp)).1 (h n (by simp)).2
    show (Lib.itoa n).length ≤ 22 * 1
    omega
  | a :: b :: l, h => by
    have h1 := Lib.itoa_length_le a (h a (by simp)).1 (h a (by simp)).2
    have h2 := words_len (b :: l) (fun x hx => h x (by simp [hx]))
    show (Lib.itoa a ++ 32 :: wordsL (b :: l)).length ≤ _
    rw [List.length_append, List.length_cons]
    simp only [List.length_cons] at h2 ⊢
    omega
set_option maxHeartbeats 4000000 in
set_option maxRecDepth 100000 in
theorem sline_ok (b q c n : Nat) (ns : List Int) (acc : List UInt8) (w0 w : World) (h : IsBld b acc w) (ha : ArgI w q ns) (hq : q ≠ b) (hn : n = ns.length) (hn3 : n ≤ 3) (hc : n ≤ c) (hc2 : c ≤ 9223372036854775807)
    (hbd : ∀ x ∈ ns, -9223372036854775808 ≤ x ∧ x ≤ 9223372036854775807) (ht : Tabs w0) (hw0 : w0.heap.size ≤ b) (hbw : Below b w0 w) (hl : acc.length ≤ 100000000) :
    Calls Tryd.prog 28 #[.slice (some ⟨q, 0, none⟩) n c, .pointer (some ⟨b, 0, none⟩)] w fun e w' => e = .returned (.tuple #[]) ∧ IsBld b (acc ++ lineL ns) w' ∧ Below b w w' := by
  have HN := Lib.hid hn
  have HH := Lib.hid h
  have HA := Lib.hid ha
  have HBD := Lib.hid hbd
  have HT := Lib.hid ht
  have HBW := Lib.hid hbw
  have hbw1 : b ≤ w.heap.size := Nat.le_of_lt h.lt
  clear h ha hn hbd ht hbw
  go_enter Tryd.func28, Tryd.ntmps28
  go_wp2_with fail
  go_loopg [7] n (fun gk v7 wr => ∃ k : Nat, v7 = .int .i64 (k : Int) ∧ k + gk = n ∧ Hid (IsBld b (acc ++ wordsL (ns.take k)) wr) ∧ Hid (ArgI wr q ns) ∧ Hid (Below b w wr))
  case atStart => exact ⟨0, rfl, by omega, Lib.hid (by simpa [wordsL] using HH.out), HA, Lib.hid (Below.refl _ _)⟩
  case round =>
    clear HH HA
    obtain ⟨k, rfl, hgk, HH, HA, HB⟩ := hrel
    have HGK := Lib.hid hgk
    have hk : k ≤ n := by omega
    clear hgk
    by_cases hlt : k < n
    · have hkl : k < ns.length := by have := HN.out; omega
      have hcell := HA.out.cell hkl
      have hx := HBD.out _ (List.getElem_mem hkl)
      have hlen : (acc ++ wordsL (ns.take k)).length ≤ 100000100 := by
        have h1 := words_len (ns.take k) (fun x hx => HBD.out x (List.mem_of_mem_take hx))
        rw [List.length_take] at h1
        rw [List.length_append]; omega
      have HTK := Lib.hid (show k ≠ 0 → wordsL (ns.take (k + 1)) = wordsL (ns.take k) ++ 32 :: Lib.itoa ns[k] from fun h0 => by
        rw [List.take_succ_eq_append_getElem hkl, words_snoc _ _ (fun e => by have := congrArg List.length e; rw [List.length_take, List.length_nil] at this; omega)])
      have HT0 := Lib.hid (show k = 0 → wordsL (ns.take (k + 1)) = wordsL (ns.take k) ++ Lib.itoa ns[k] from fun h0 => by
        subst h0
        rw [List.take_succ_eq_append_getElem hkl]; rfl)
      have hil := Lib.itoa_length_le ns[k] hx.1 hx.2
      have HIT := Lib.hid (fun (W : World) (hW : Below b w W) => itoa_ok ns[k] hx.1 hx.2 W (HT.out.later ((HBW.out.trans hW).mono hw0)))
      generalize ns[k] = y at *
      have hk0 : (0 : Int) ≤ (k : Int) := by omega
      have hkn : (k : Int) < (n : Int) := by omega
      have hd1 : decide ((k : Int) < (n : Int)) = true := by simp; omega
      have hd2 : decide (k < n) = true := by simp; omega
      have HLT := Lib.hid hlt
      clear hlt hkl
      by_cases h0 : k = 0
      · have hz1 : decide ((0 : Int) < (k : Int)) = false := by simp; omega
        have hz2 : decide (0 < k) = false := by simp; omega
        have HT0 := Lib.hid (HT0.out h0)
        clear HTK h0
        go_wp2_with fail
        refine (HIT.out _ HB.out).mono ?_; rintro e w2 ⟨rfl, hb2⟩
        have HB2 := Lib.hid (HB.out.trans (hb2.mono (Nat.le_of_lt HH.out.lt)))
        have HA2 := Lib.hid (HA.out.next hb2)
        have HH2 := Lib.hid (show IsBld b (acc ++ wordsL (ns.take k)) w2 from bld_later HH.out hb2)
        have HWS := Lib.hid (wstr_ok b _ (Lib.itoa y) w2 HH2.out (by omega) (by omega))
        go_wp2_with fail
        refine HWS.out.mono ?_; rintro e w3 ⟨⟨v, rfl⟩, hh3, hb3, hk3⟩
        have HH3 := Lib.hid (show IsBld b (acc ++ wordsL (ns.take (k + 1))) w3 from by rw [HT0.out, ← List.append_assoc]; exact hh3)
        have HA3 := Lib.hid (HA2.out.kept hq hk3)
        have HB3 := Lib.hid (HB2.out.trans hb3)
        clear hh3 hb3 hk3 hb2
        go_wp2_with fail
        go_roundg (n - (k + 1))
        case measure => have := HGK.out; have := HLT.out; omega
        case rel => exact ⟨k + 1, by go_num, by have := HLT.out; omega, HH3, HA3, HB3⟩
      · have hz1 : decide ((0 : Int) < (k : Int)) = true := by simp; omega
        have hz2 : decide (0 < k) = true := by simp; omega
        have HTK := Lib.hid (HTK.out h0)
        have HWB := Lib.hid (wbyte_ok b _ 32 wr HH.out (by omega))
        clear HT0 h0
        go_wp2_with fail
        refine HWB.out.mono ?_; rintro e w1 ⟨rfl, hh1, hb1, hk1⟩
        have HH1 := Lib.hid hh1
        have HA1 := Lib.hid (HA.out.kept hq hk1)
        have HB1 := Lib.hid (HB.out.trans hb1)
        clear hh1 hb1 hk1 hcell
        go_wp2_with fail
        refine (HIT.out _ HB1.out).mono ?_; rintro e w2 ⟨rfl, hb2⟩
        have HB2 := Lib.hid (HB1.out.trans (hb2.mono (Nat.le_of_lt HH1.out.lt)))
        have HA2 := Lib.hid (HA1.out.next hb2)
        have HH2 := Lib.hid (bld_later HH1.out hb2)
        have HWS := Lib.hid (wstr_ok b _ (Lib.itoa y) w2 HH2.out (by rw [List.length_append, show ([32] : List UInt8).length = 1 from rfl]; omega) (by omega))
        go_wp2_with fail
        refine HWS.out.mono ?_; rintro e w3 ⟨⟨v, rfl⟩, hh3, hb3, hk3⟩
        have HH3 := Lib.hid (show IsBld b (acc ++ wordsL (ns.take (k + 1))) w3 from by
          rw [HTK.out]
          have e1 : acc ++ (wordsL (ns.take k) ++ 32 :: Lib.itoa y) = acc ++ wordsL (ns.take k) ++ [32] ++ Lib.itoa y := by simp
          rw [e1]; exact hh3)
        have HA3 := Lib.hid (HA2.out.kept hq hk3)
        have HB3 := Lib.hid (HB2.out.trans hb3)
        clear hh3 hb3 hk3 hb2
        go_wp2_with fail
        go_roundg (n - (k + 1))
        case measure => have := HGK.out; have := HLT.out; omega
        case rel => exact ⟨k + 1, by go_num, by have := HLT.out; omega, HH3, HA3, HB3⟩
    · obtain rfl : k = n := by omega
      have hd1 : decide ((k : Int) < (k : Int)) = false := by simp
      have hd2 : decide (k < k) = false := by simp
      have hall : ns.take k = ns := List.take_of_length_le (by rw [← HN.out]; exact Nat.le_refl _)
      rw [hall] at HH
      have hlen : (acc ++ wordsL ns).length ≤ 100000100 := by
        have h1 := words_len ns HBD.out
        rw [List.length_append]; have := HN.out; omega
      have HWB := Lib.hid (wbyte_ok b _ 10 wr HH.out (by omega))
      clear hlt hall
      go_wp2_with fail
      refine HWB.out.mono ?_; rintro e w1 ⟨rfl, hh1, hb1, hk1⟩
      have HH1 := Lib.hid (show IsBld b (acc ++ lineL ns) w1 from by rw [lineL_words, ← List.append_assoc]; exact hh1)
      have HB1 := Lib.hid (HB.out.trans hb1)
      clear hh1 hb1 hk1
      go_wp2_with fail
      go_end0
      exact ⟨rfl, HH1.out, HB1.out⟩
end Go.Proofs.YtmdbcknlipahgaaDoor
