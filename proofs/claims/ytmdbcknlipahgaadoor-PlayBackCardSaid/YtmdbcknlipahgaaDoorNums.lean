/- The walk of sheet.numbers. -/
import Derived.Test.YtmdbcknlipahgaaDoorShelfS
namespace Go.Proofs.YtmdbcknlipahgaaDoor
open Go.RowKit
theorem numW_bd (w : List UInt8) : -9223372036854775808 ≤ numW w ∧ numW w ≤ 9223372036854775807 := by
  unfold numW
  split
  · exact atoi_bd (by assumption)
  · exact ⟨by omega, by omega⟩
theorem its_snoc2 (l : List Int) (x : Int) : its (l ++ [x]) = its l ++ [Value.int .i64 x] := by simp [its]
theorem numsL_eq (s : ByteArray) (l : List ByteArray) (h : l.map (·.data.toList) = Lib.split (Lib.trimSuffix s.data.toList [10]) [32]) : numsL s.data.toList = l.map fun x => numW x.data.toList := by
  unfold numsL
  rw [← h, List.map_map]; rfl
theorem trim_sz (l : List UInt8) : (Lib.trimSuffix l [10]).length ≤ l.length := by
  unfold Lib.trimSuffix
  split
  · rw [List.length_take]; omega
  · exact Nat.le_refl _
theorem trim_size (s : ByteArray) : (⟨(Lib.trimSuffix s.data.toList [10]).toArray⟩ : ByteArray).size ≤ s.size := by
  rw [Lib.size_eq, Lib.size_eq]
  exact trim_sz s.data.toList
set_option maxHeartbeats 4000000 in
set_option maxRecDepth 100000 in
theorem numbers_ok (s : ByteArray) (hs : s.size ≤ 20001) (w : World) (ht : Tabs w) :
    Calls Tryd.prog 35 #[.string s] w fun e w' => ∃ q d, e = .returned (.slice q (numsL s.data.toList).length d) ∧ w'.ownsRow w.heap.size 3 1 (.slice q (numsL s.data.toList).length d) (numsL s.data.toList).length (its (numsL s.data.toList)) ∧ 1 ≤ (numsL s.data.toList).length ∧ Below w.heap.size w w' := by
  have HTR := Lib.hid (trim_ok s (by omega) w)
  have hsz : (⟨(Lib.trimSuffix s.data.toList [10]).toArray⟩ : ByteArray).size ≤ 20001 := Nat.le_trans (trim_size s) hs
  have HSP := Lib.hid (split_ok ⟨(Lib.trimSuffix s.data.toList [10]).toArray⟩ (by omega) w)
  have HT := Lib.hid ht
  clear ht
  go_enter Tryd.func35, Tryd.ntmps35
  go_wp2_with fail
  refine HTR.out.mono ?_; rintro e w' ⟨rfl, rfl⟩
  go_wp2_with fail
  refine HSP.out.mono ?_; rintro e w1 ⟨l, g, rfl, hl, hx, hl1, hl2, hsl, hb1⟩
  have HEQ := Lib.hid (numsL_eq s l (by rw [hl]))
  have HX := Lib.hid hx
  have HS := Lib.hid hsl
  have HB1 := Lib.hid hb1
  obtain ⟨n, hn⟩ : ∃ n, n = l.length := ⟨_, rfl⟩
  have hn2 : n ≤ 20002 := by omega
  have hn1 : 1 ≤ n := by omega
  rw [← hn] at HS ⊢
  have HN := Lib.hid hn
  obtain ⟨B, hB⟩ : ∃ B, B = w1.heap.size := ⟨_, rfl⟩
  have hBB : B ≤ w1.heap.size := Nat.le_of_eq hB
  have HWW := Lib.hid (show ∀ W, Below B w1 W → Below w1.heap.size w1 W from fun W hW => by rw [← hB]; exact hW)
  have HGB := Lib.hid (show w.heap.size ≤ B from by rw [hB]; exact hb1.size)
  clear hx hsl hb1 hl hl1 hl2 hn HTR HSP hsz hB
  go_wp2_with fail
  go_loopg [12, 3] n (fun gk v12 v3 wr => ∃ (k : Nat) (p' : Option Addr) (c' : Nat), v12 = .int .i64 (k : Int) ∧ k + gk = n ∧ v3 = .slice p' k c' ∧ wr.ownsRow B 3 1 (.slice p' k c') k (its ((l.take k).map fun x => numW x.data.toList)) ∧ Hid (Below B w1 wr) ∧ B ≤ wr.heap.size)
  case atStart => exact ⟨0, none, 0, rfl, by omega, rfl, World.ownsRow_nil _ _ _ _, Lib.hid (Below.refl _ _), hBB⟩
  case round =>
    obtain ⟨k, p', c', rfl, hgk, rfl, hown, HB, hsz⟩ := hrel
    have HGK := Lib.hid hgk
    have hk : k ≤ n := by omega
    clear hgk
    by_cases hlt : k < n
    · have hkl : k < l.length := by have := HN.out; omega
      obtain ⟨b, off, hpe, hc0⟩ := (HS.out.later (HWW.out _ HB.out)).get (j := k) (show (strs l)[k]? = some (.string l[k]) from by unfold strs; rw [List.getElem?_map, List.getElem?_eq_getElem hkl]; rfl)
      cases hpe
      rw [Nat.zero_add] at hc0
      have hxs := HX.out _ (List.getElem_mem hkl)
      have HTK := Lib.hid (show its ((l.take (k + 1)).map fun x => numW x.data.toList) = its ((l.take k).map fun x => numW x.data.toList) ++ [.int .i64 (numW (l[k]).data.toList)] from by
        rw [List.take_succ_eq_append_getElem hkl, List.map_append]; exact its_snoc2 _ _)
      have htw := trim_size s
      have HAT := Lib.hid (atoi_ok l[k] (by omega) wr ((HT.out.later HB1.out).later (HWW.out _ HB.out)))
      generalize l[k] = x at *
      have hk0 : (0 : Int) ≤ (k : Int) := by omega
      have hkn : (k : Int) < (n : Int) := by omega
      have hd1 : decide ((k : Int) < (n : Int)) = true := by simp; omega
      have hd2 : decide (k < n) = true := by simp; omega
      have HLT := Lib.hid hlt
      clear hlt hxs htw hkl
      go_wp2_with fail
      refine HAT.out.mono ?_; rintro e w2 ⟨⟨y, ev, rfl, hy⟩, hb2⟩
      have hown2 := own_later hown hb2
      have HB2 := Lib.hid (HB.out.trans (hb2.mono hsz))
      have hsz2 : B ≤ w2.heap.size := Nat.le_trans hsz hb2.size
      clear hb2 hown HB hsz HAT hc0
      rcases hy with ⟨rfl, hy⟩ | ⟨⟨t2, p2, rfl⟩, hy⟩
      · rw [hy] at HTK
        clear hy
        go_wp2_with (at_builtin; refine wp_app1h (w0 := w2) rfl (.tmp 23) (.tmp 25) _ rfl B 3 rfl inf_int rfl (by decide) rfl hown2 (us := [.int .i64 y]) rfl rfl rfl (by simp [Value.oneCell']) (by unfold maxLen; omega) (by omega) (Below.refl _ w2) hsz2 ?_; intro p3 c3 w3 hown3 hb3 hs3 hg3 hnb3; rw [← HTK.out] at hown3; have HB3 := Lib.hid (HB2.out.trans hb3); have HO3 := Lib.hid hown3; clear hown3 hown2)
        go_roundg (n - (k + 1))
        case measure => have := HGK.out; have := HLT.out; omega
        case rel => exact ⟨k + 1, p3, c3, by go_num, by have := HLT.out; omega, rfl, HO3.out, HB3, hs3⟩
      · rw [hy] at HTK
        clear hy
        go_wp2_with (at_builtin; refine wp_app1h (w0 := w2) rfl (.tmp 23) (.tmp 25) _ rfl B 3 rfl inf_int rfl (by decide) rfl hown2 (us := [.int .i64 (-1)]) rfl rfl rfl (by simp [Value.oneCell']) (by unfold maxLen; omega) (by omega) (Below.refl _ w2) hsz2 ?_; intro p3 c3 w3 hown3 hb3 hs3 hg3 hnb3; rw [← HTK.out] at hown3; have HB3 := Lib.hid (HB2.out.trans hb3); have HO3 := Lib.hid hown3; clear hown3 hown2)
        go_roundg (n - (k + 1))
        case measure => have := HGK.out; have := HLT.out; omega
        case rel => exact ⟨k + 1, p3, c3, by go_num, by have := HLT.out; omega, rfl, HO3.out, HB3, hs3⟩
    · obtain rfl : k = n := by omega
      have hd1 : decide ((k : Int) < (k : Int)) = false := by simp
      have hd2 : decide (k < k) = false := by simp
      have hall : (l.take k).map (fun x => numW x.data.toList) = numsL s.data.toList := by rw [List.take_of_length_le (by rw [← HN.out]; exact Nat.le_refl _), HEQ.out]
      have hlen : k = (numsL s.data.toList).length := by rw [HEQ.out, List.length_map, ← HN.out]
      rw [hall] at hown
      have HO := Lib.hid hown
      have HLN := Lib.hid hlen
      clear hown hlt hall hlen
      go_wp2_with fail
      go_ret
      exact ⟨p', c', by rw [← HLN.out]; rfl, by rw [← HLN.out]; exact own_mono HO.out HGB.out, by rw [← HLN.out]; exact hn1, HB1.out.trans ((HWW.out _ HB.out).mono HB1.out.size)⟩
end Go.Proofs.YtmdbcknlipahgaaDoor
