/- The walk of merge.Lists: lists of mail, each in order, merged. -/
import Derived.Test.YtcaolnpkpialdaaMerged
namespace Go.Proofs.Ytcaolnpkpialdaa
open Go.RowKit Go.Sort Go.Proofs
theorem flat_len_take {α : Type} (R : List (List α)) (k : Nat) : (R.take k).flatten.length ≤ R.flatten.length := by
  have h : R.flatten = (R.take k).flatten ++ (R.drop k).flatten := by rw [← List.flatten_append, List.take_append_drop]
  rw [h, List.length_append]; omega
theorem flat_len_next {α : Type} (R : List (List α)) (k : Nat) (hk : k < R.length) : (R.take (k + 1)).flatten.length = (R.take k).flatten.length + R[k].length := by
  rw [List.take_succ_eq_append_getElem hk, List.flatten_append, List.length_append]
  simp
set_option maxHeartbeats 8000000 in
set_option maxRecDepth 100000 in
theorem lists_ok (p : Option Addr) (n c : Nat) (R : List (List (Nat × Nat))) (w : World) (hR : IsRR mcs 2 List.length w (.slice p n c) R) (hs : ∀ r ∈ R, r.Pairwise leM) (hn5 : n ≤ 5000) (ht : R.flatten.length ≤ 5000) :
    Calls Try.prog 20 #[.slice p n c] w fun e w' => ∃ p' c', e = .returned (.tuple #[.slice p' R.flatten.length c', .int .i64 0]) ∧ w'.ownsRow w.heap.size 109 2 (.slice p' R.flatten.length c') R.flatten.length (mcs (srt cfM R.flatten)) ∧ Below w.heap.size w w' := by
  obtain ⟨hnR, hnc, hc63⟩ := hR.lens
  have HME := Lib.hid (fun (W : World) (hb : Below w.heap.size w W) => merged_ok p n c R W (hR.later hb) hs hn5 ht)
  have HR := Lib.hid hR
  have HS := Lib.hid hs
  have HNR := Lib.hid hnR
  clear hR hs hnR
  have HFT := Lib.hid (fun k => flat_len_take R k)
  obtain ⟨t, htt⟩ : ∃ t, t = R.flatten.length := ⟨_, rfl⟩
  have HT := Lib.hid htt
  rw [← htt] at HME HFT ht ⊢
  clear htt
  go_enter Try.func20, Try.ntmps20
  go_wp2_with fail
  go_loopg [4, 6, 11] n (fun gk v4 v6 v11 wr => ∃ (k S : Nat), v11 = .int .i64 (k : Int) ∧ v4 = .int .i64 (S : Int) ∧ k + gk = n ∧ w = wr ∧ Hid (S = (R.take k).flatten.length) ∧ S ≤ t)
  case atStart => exact ⟨0, 0, rfl, rfl, by omega, rfl, Lib.hid (by simp), Nat.zero_le _⟩
  case round =>
    obtain ⟨k, S, rfl, rfl, hgk, rfl, HSU, hSt⟩ := hrel
    have HGK := Lib.hid hgk
    have hk : k ≤ n := by omega
    clear hgk
    by_cases hlt : k < n
    · have hkl : k < R.length := by have := HNR.out; omega
      obtain ⟨bb, off, q, d, rfl, hc0, hsl⟩ := HR.out.get hkl
      have HNX := Lib.hid (flat_len_next R k hkl)
      have hS2 := HFT.out (k + 1)
      rw [HNX.out, ← HSU.out] at hS2
      obtain ⟨u, hu⟩ : ∃ u, u = R[k].length := ⟨_, rfl⟩
      rw [← hu] at HNX hc0 hS2
      have hk0 : (0 : Int) ≤ (k : Int) := by omega
      have hkn : (k : Int) < (n : Int) := by omega
      have hd1 : decide ((k : Int) < (n : Int)) = true := by simp; omega
      have hd2 : decide (k < n) = true := by simp; omega
      have hw1 : IntKind.i64.wrap ((S : Int) + (u : Int)) = ((S + u : Nat) : Int) := by rw [IntWalk.i64_in _ (by omega)]; push_cast; rfl
      clear hsl hlt hu
      go_wp2_with fail
      go_roundg (n - (k + 1))
      case measure => have := HGK.out; omega
      case rel => exact ⟨k + 1, S + u, by go_num, by first | rfl | go_num, by omega, rfl, Lib.hid (by rw [HNX.out, HSU.out]), hS2⟩
    · obtain rfl : n = k := by omega
      have hd1 : decide ((n : Int) < (n : Int)) = false := by simp
      have hd2 : decide (n < n) = false := by simp
      have hq1 : ¬ (5000 : Int) < (S : Int) := by omega
      have hq2 : ¬ 5000 < S := by omega
      have hq3 : ¬ (5000 : Int) < (n : Int) := by omega
      have hq4 : ¬ 5000 < n := by omega
      clear hlt
      go_wp2_with fail
      go_loopg [8, 29] n (fun gk v8 v29 wr => ∃ (k : Nat), v29 = .int .i64 (k : Int) ∧ k + gk = n ∧ Below w.heap.size w wr)
      case atStart => exact ⟨0, rfl, by omega, Below.refl _ _⟩
      case round =>
        clear hd1 hd2 hq1 hq2 hq3 hq4 HSU HGK
        obtain ⟨k, rfl, hgk, hb⟩ := hrel
        have HGK := Lib.hid hgk
        have hk : k ≤ n := by omega
        clear hgk
        by_cases hlt : k < n
        · have hkl : k < R.length := by have := HNR.out; omega
          obtain ⟨bb, off, q, d, rfl, hc0, hsl⟩ := (HR.out.later hb).get hkl
          have HIS := Lib.hid (isSortM_ok _ d q R[k] _ hsl (HS.out _ (List.getElem_mem hkl)))
          generalize R[k].length = u at *
          have hk0 : (0 : Int) ≤ (k : Int) := by omega
          have hkn : (k : Int) < (n : Int) := by omega
          have hd1 : decide ((k : Int) < (n : Int)) = true := by simp; omega
          have hd2 : decide (k < n) = true := by simp; omega
          clear hsl
          go_wp2_with (go_at_call 43; refine HIS.out.mono ?_; rintro e w3 ⟨rfl, hb3⟩)
          have hb4 := below_next hb (Nat.le_refl _) hb3
          go_roundg (n - (k + 1))
          case measure => have := HGK.out; omega
          case rel => exact ⟨k + 1, by go_num, by omega, hb4⟩
        · obtain rfl : n = k := by omega
          have hd1 : decide ((n : Int) < (n : Int)) = false := by simp
          have hd2 : decide (n < n) = false := by simp
          have HME2 := Lib.hid (HME.out _ hb)
          go_wp2_with (go_at_call 45; refine HME2.out.mono ?_; rintro e w3 ⟨p3, c3, rfl, ho3, hb3⟩)
          go_ret2
          exact ⟨p3, c3, rfl, own_mono ho3 hb.size, below_next hb (Nat.le_refl _) hb3⟩
end Go.Proofs.Ytcaolnpkpialdaa
