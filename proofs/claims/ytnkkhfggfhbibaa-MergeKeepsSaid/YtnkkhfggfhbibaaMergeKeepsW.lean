/- The walk of the law MergeKeeps. -/
import Derived.Test.YtnkkhfggfhbibaaTimes
import Derived.Deep.RegionHeld3
namespace Go.Proofs.Ytnkkhfggfhbibaa
open Go.RowKit
theorem box_kept0 {wr w2 : World} (hb : Below wr.drew.heap.size wr.drew w2) : Below wr.heap.size wr w2 := (Below.refl _ wr).drew.trans hb
theorem srtM_at {l : List (Nat × Nat)} {i j : Nat} (hi : i < (srt cfM l).length) (hj : j < (srt cfM l).length) (h : j < i) : (srt cfM l)[j].1 < (srt cfM l)[i].1 ∨ ((srt cfM l)[j].1 = (srt cfM l)[i].1 ∧ (srt cfM l)[j].2 ≤ (srt cfM l)[i].2) :=
  (leM_iff _ _).1 (List.pairwise_iff_getElem.1 (srt_sorted swoM l) j i hj hi h)
set_option maxHeartbeats 4000000 in
set_option maxRecDepth 100000 in
theorem mergeKeeps_walk (w : World) (v1 : Value) (l1 : List (List Int)) (h1 : IsR 2 w v1 l1) :
    Calls Try.prog 6 #[v1] w fun e w' => e = .returned (.bool true) ∧ Below w.heap.size w w' := by
  obtain ⟨p1, c1, rfl⟩ := h1.val
  have HL1 := Lib.hid h1
  clear h1
  go_enter Try.func6, Try.ntmps6
  go_wp2_with fail
  refine (posts_any p1 c1 _ l1 40 w HL1.out (by omega)).mono ?_; rintro e w1 ⟨q1, d1, rfl, ho1, hb1⟩
  have hpl : (postsL l1 40).length ≤ 40 := by unfold postsL; rw [List.length_map]; exact List.length_take_le _ _
  generalize postsL l1 40 = l at *
  obtain ⟨n, hn⟩ : ∃ n, n = l.length := ⟨_, rfl⟩
  rw [← hn] at ho1 hpl ⊢
  have HN := Lib.hid hn
  clear hn
  go_wp2_with fail
  refine (sorted_ok n d1 q1 l w1 (Sl.of_own ho1) (by omega)).mono ?_; rintro e w2 ⟨q2, d2, rfl, ho2, hb2⟩
  have HS1 := Lib.hid ((Sl.of_own ho1).later hb2)
  have HS2 := Lib.hid (Sl.of_own ho2)
  obtain ⟨hbw, hz2⟩ := below_step hb1 hb1.size hb2
  obtain ⟨hnn, hnd1, hd163⟩ := HS1.out.mlen
  clear hnn
  have hsl : (srt cfM l).length = n := by rw [srt_len]; exact HN.out.symm
  have HSL := Lib.hid hsl
  have HAT := Lib.hid (fun (i j : Nat) (hi : i < (srt cfM l).length) (hj : j < (srt cfM l).length) (h : j < i) => srtM_at (l := l) hi hj h)
  have HCT := Lib.hid (fun x => (srt_perm (cf := cfM) l).count_eq x)
  clear ho1 ho2 hb1 hb2 hsl
  generalize srt cfM l = s at *
  go_wp2_with fail
  go_loopg [6] n (fun gk v6 wr => ∃ k : Nat, v6 = .int .i64 (k : Int) ∧ k + gk = n ∧ Below w.heap.size w wr ∧ Below w2.heap.size w2 wr ∧ w2.heap.size ≤ wr.heap.size)
  case atStart => exact ⟨0, rfl, by omega, hbw, Below.refl _ _, Nat.le_refl _⟩
  case round =>
    clear hbw
    obtain ⟨k, rfl, hgk, hb, hb2, hz⟩ := hrel
    have HGK := Lib.hid hgk
    have hk : k ≤ n := by omega
    clear hgk
    by_cases hlt : k < n
    · have hkl : k < l.length := by have := HN.out; omega
      have hks : k < s.length := by have := HSL.out; omega
      have hk0 : (0 : Int) ≤ (k : Int) := by omega
      have hkn : (k : Int) < (n : Int) := by omega
      have hd1' : decide ((k : Int) < (n : Int)) = true := by simp; omega
      have hd2' : decide (k < n) = true := by simp; omega
      obtain ⟨b, off, rfl, hc0, hc1⟩ := (HS1.out.later hb2).mail hkl
      have hbb : b < wr.heap.size := World.block_lt_of_cell? wr _ hc0
      have HTA := Lib.hid (fun (W : World) (h : Below wr.heap.size wr W) => times_ok n d2 q2 s l[k] W (HS2.out.later (hb2.trans (h.mono hz))) (by omega))
      have HTB := Lib.hid (fun (W : World) (h : Below wr.heap.size wr W) => times_ok n d1 (some ⟨b, off, none⟩) l l[k] W (HS1.out.later (hb2.trans (h.mono hz))) (by omega))
      rw [HCT.out l[k]] at HTA
      generalize l[k] = x at HTA HTB hc0 hc1
      obtain ⟨x1, x2⟩ := x
      generalize l.count (x1, x2) = q at *
      dsimp only at hc0 hc1 HTA HTB
      go_upto_region 8 with fail
      go_cut [41] (fun s41 wx => s41 = .bool false ∧ Below wr.heap.size wr wx)
      case first =>
        go_region_held3 (fun w' => w'.cell? ⟨b, off + k * 2, none⟩ = some (Value.int .i64 (x1 : Int)) ∧ w'.cell? ⟨b, off + k * 2 + 1, none⟩ = some (Value.int .i64 (x2 : Int)))
          (first | (exact ⟨hy2, hy3⟩) | (exact ⟨hy0, hy1⟩) | go_keep)
          (first
            | (go_at_call_of 23 (Value.slice q2 n d2); go_must (refine (HTA.out _ (Below.drew (Below.refl _ _))).mono ?_); rintro e w3 ⟨rfl, hb3⟩; have hcz := box_kept0 hb3; have hy0 := (hcz.cell (p := ⟨b, off + k * 2, none⟩) hbb).trans hc0; have hy1 := (hcz.cell (p := ⟨b, off + k * 2 + 1, none⟩) hbb).trans hc1)
            | (go_at_call_of 23 (Value.slice (some ⟨b, off, none⟩) n d1); refine (HTB.out _ (Below.drew (Below.refl _ _))).mono ?_; rintro e w3 ⟨rfl, hb3⟩; have hcz := box_kept0 hb3; have hy0 := (hcz.cell (p := ⟨b, off + k * 2, none⟩) hbb).trans hc0; have hy1 := (hcz.cell (p := ⟨b, off + k * 2 + 1, none⟩) hbb).trans hc1)
            | (go_at_call_of 23 (Value.slice q2 n d2); refine (HTA.out _ hcz).mono ?_; rintro e w4 ⟨rfl, hb4⟩; have hcy := hcz.trans (hb4.mono hcz.size); have hy2 := (hcy.cell (p := ⟨b, off + k * 2, none⟩) hbb).trans hc0; have hy3 := (hcy.cell (p := ⟨b, off + k * 2 + 1, none⟩) hbb).trans hc1)
            | (go_at_call_of 23 (Value.slice (some ⟨b, off, none⟩) n d1); refine (HTB.out _ hcz).mono ?_; rintro e w4 ⟨rfl, hb4⟩; have hcy := hcz.trans (hb4.mono hcz.size); have hy2 := (hcy.cell (p := ⟨b, off + k * 2, none⟩) hbb).trans hc0; have hy3 := (hcy.cell (p := ⟨b, off + k * 2 + 1, none⟩) hbb).trans hc1))
        all_goals
          go_wp2_with fail
          go_meet
          case rel => exact ⟨by simp, hcy⟩
      case rest =>
        obtain ⟨rfl, hcw⟩ := hcut
        have hbz := hb.trans (hcw.mono hb.size)
        have hb2z := hb2.trans (hcw.mono hz)
        have hzz := Nat.le_trans hz hcw.size
        clear hc0 hc1 HTA HTB
        by_cases h0 : 0 < k
        · have hks2 : k - 1 < s.length := by omega
          obtain ⟨b2, off2, rfl, hs0, hs1⟩ := (HS2.out.later hb2z).mail hks
          obtain ⟨b3, off3, he, ht0, ht1⟩ := (HS2.out.later hb2z).mail hks2
          cases he
          have hle := HAT.out k (k - 1) hks hks2 (by omega)
          generalize s[k] = x at hle hs0 hs1
          generalize s[k - 1] = y at hle ht0 ht1
          obtain ⟨x1, x2⟩ := x
          obtain ⟨y1, y2⟩ := y
          dsimp only at hle hs0 hs1 ht0 ht1
          obtain ⟨kp, hkp⟩ : ∃ kp, k = kp + 1 := ⟨k - 1, by omega⟩
          subst hkp
          rw [Nat.add_sub_cancel] at ht0 ht1
          have hp1 : decide ((0 : Int) < (kp : Int) + 1) = true := decide_eq_true (by omega)
          have hw1 : IntKind.i64.wrap ((kp : Int) + 1 - 1) = (kp : Int) := by rw [Int.add_sub_cancel]; exact IntWalk.i64_in _ (by omega)
          have hw2 : IntKind.i64.wrap (kp : Int) = (kp : Int) := IntWalk.i64_in _ (by omega)
          have hkp0 : (0 : Int) ≤ (kp : Int) := by omega
          have hkq0 : (0 : Int) ≤ (kp : Int) + 1 := by omega
          have hkqn : (kp : Int) + 1 < (n : Int) := by omega
          have hkqt : ((kp : Int) + 1).toNat = kp + 1 := by omega
          have hkpn : (kp : Int) < (n : Int) := by omega
          have hn1 : decide ((x1 : Int) < (y1 : Int)) = false := by simp; omega
          have hm1 : decide (x1 < y1) = false := by simp; omega
          by_cases he : x1 = y1
          · subst he
            have hle2 : y2 ≤ x2 := by omega
            have hn3 : decide ((x2 : Int) < (y2 : Int)) = false := by simp; omega
            have hm3 : decide (x2 < y2) = false := by simp; omega
            have hm4 : ((x1 : Int) == (x1 : Int)) = true := by simp
            clear hle
            go_wp2_with fail
            go_quiet (fail)
            go_wp2_with fail
            go_roundg (n - (kp + 1 + 1))
            case measure => have := HGK.out; omega
            case rel => exact ⟨kp + 1 + 1, by go_num, by omega, below_drewN hbz _, below_drewN hb2z _, hzz⟩
          · have hn2 : ((x1 : Int) == (y1 : Int)) = false := by simp; omega
            clear hle he
            go_wp2_with fail
            go_quiet (fail)
            go_wp2_with fail
            go_roundg (n - (kp + 1 + 1))
            case measure => have := HGK.out; omega
            case rel => exact ⟨kp + 1 + 1, by go_num, by omega, below_drewN hbz _, below_drewN hb2z _, hzz⟩
        · obtain rfl : k = 0 := by omega
          have hp1 : decide ((0 : Int) < ((0 : Nat) : Int)) = false := by simp
          have hp2 : decide ((0 : Int) < 0) = false := by simp
          clear h0
          go_wp2_with fail
          go_quiet (fail)
          go_wp2_with fail
          go_roundg (n - (0 + 1))
          case measure => have := HGK.out; omega
          case rel => exact ⟨0 + 1, by go_num, by omega, below_drewN hbz _, below_drewN hb2z _, hzz⟩
    · have hd1' : decide ((k : Int) < (n : Int)) = false := by simp; omega
      have hd2' : decide (k < n) = false := by simp; omega
      go_wp2_with fail
      go_ret
      exact ⟨rfl, hb⟩
end Go.Proofs.Ytnkkhfggfhbibaa
