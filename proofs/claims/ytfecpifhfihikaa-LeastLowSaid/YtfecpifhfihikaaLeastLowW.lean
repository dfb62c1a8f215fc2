/- The walk of the law LeastLow. -/
import Derived.Test.YtfecpifhfihikaaLeast
import Derived.Deep.QuietTactic
import Derived.BigQuiet
namespace Go.Proofs.Ytfecpifhfihikaa
open Go.RowKit Go.Sort Go.Proofs
theorem box_kept0 {wr w2 : World} (hb : Below wr.drew.heap.size wr.drew w2) : Below wr.heap.size wr w2 := (Below.refl _ wr).drew.trans hb
set_option linter.unusedVariables false in
set_option maxHeartbeats 8000000 in
set_option maxRecDepth 100000 in
theorem leastLow_walk (w : World) (v1 : Value) (l1 : List (List Int)) (h1 : IsR 2 w v1 l1) :
    Calls Try.prog 3 #[v1] w fun e w' => e = .returned (.bool true) ∧ Below w.heap.size w w' := by
  obtain ⟨p1, c1, rfl⟩ := h1.val
  obtain ⟨-, hlc, hc63⟩ := h1.lens
  have HP := Lib.hid (posts_any p1 c1 _ l1 40 w h1 (by omega))
  have hpl : (postsL l1 40).length = min 40 l1.length := by unfold postsL; rw [List.length_map, List.length_take]
  generalize postsL l1 40 = l at *
  obtain ⟨n1, hn1⟩ : ∃ n1, n1 = l1.length := ⟨_, rfl⟩
  rw [← hn1] at hpl hlc HP ⊢
  obtain ⟨n, hn⟩ : ∃ n, n = l.length := ⟨_, rfl⟩
  rw [← hn] at hpl HP
  have hn40 : n ≤ 40 := by omega
  have HZ := Lib.hid (show n = 0 ↔ n1 = 0 by omega)
  have hsl : (srt cfM l).length = n := by rw [srt_len]; exact hn.symm
  have HSO := Lib.hid (srt_sorted swoM l)
  have HSORT := Lib.hid (fun (W : World) (d : Nat) (q : Option Addr) (h : Sl W 2 (.slice q n d) n (mcs l)) => sorted_ok n d q l W h (by omega))
  have HLEAST := Lib.hid (fun (W : World) (d : Nat) (q : Option Addr) (h : Sl W 2 (.slice q n d) n (mcs (srt cfM l))) => leastM_ok n d q (srt cfM l) W h (by omega) HSO.out)
  generalize srt cfM l = s at *
  obtain ⟨hpw, hrep, -⟩ := cmpT_all HSO.out n (by omega)
  have hmem := cmpT_mem (l := s) n (by omega)
  have hpos := cmpT_pos (l := s) n
  have hle := cmpT_len s n
  generalize cmpT s n = f at *
  obtain ⟨m, hm⟩ : ∃ m, m = f.length := ⟨_, rfl⟩
  rw [← hm] at hpos hle HLEAST
  have hm0 : m = 0 ↔ n1 = 0 := by
    have := HZ.out
    constructor
    · intro h
      by_cases h0 : n = 0
      · omega
      · have := hpos (by omega) (by omega); omega
    · intro h; omega
  have HM := Lib.hid hm
  have HM0 := Lib.hid hm0
  have HSL := Lib.hid hsl
  have HPW := Lib.hid hpw
  have HREP := Lib.hid hrep
  have HMEM := Lib.hid hmem
  clear h1 hpl hn hn1 hsl hpw hrep hmem hpos hm hm0 HZ
  go_enter Try.func3, Try.ntmps3
  go_wp2_with fail
  refine HP.out.mono ?_; rintro e w1 ⟨q1, d1, rfl, ho1, hb1⟩
  go_wp2_with fail
  refine (HSORT.out _ _ _ (Sl.of_own ho1)).mono ?_; rintro e w2 ⟨q2, d2, rfl, ho2, hb2⟩
  have hbw2 := hb1.trans (hb2.mono hb1.size)
  have HS2 := Lib.hid (Sl.of_own ho2)
  go_wp2_with fail
  refine (HLEAST.out _ _ _ HS2.out).mono ?_; rintro e w3 ⟨q3, d3, rfl, ho3, hb3⟩
  have hbw := hbw2.trans (hb3.mono hbw2.size)
  have HS3 := Lib.hid (HS2.out.later hb3)
  have HF3 := Lib.hid (Sl.of_own ho3)
  obtain ⟨-, hnd2, hd263⟩ := HS3.out.mlen
  obtain ⟨-, hmd3, hd363⟩ := HF3.out.mlen
  clear ho1 ho2 ho3 hb1 hb2 hb3 hbw2 HP HSORT HLEAST HS2
  have hq1 : ((m : Int) == 0) = decide (m = 0) := by rw [Bool.eq_iff_iff]; simp
  have hq2 : ((n1 : Int) == 0) = decide (m = 0) := by rw [Bool.eq_iff_iff]; have := HM0.out; simp; omega
  go_wp2_with fail
  clear hq1 hq2
  obtain ⟨wo, rfl⟩ : ∃ wo : World, wo = w3 := ⟨_, rfl⟩
  go_loopg [7, 8, 9] n (fun gk v7 v8 v9 wr => ∃ k : Nat, v7 = .int .i64 (k : Int) ∧ k + gk = n ∧ Below wo.heap.size wo wr)
  case atStart => exact ⟨0, rfl, by omega, Below.refl _ _⟩
  case round =>
    obtain ⟨k, rfl, hgk, hb⟩ := hrel
    have HGK := Lib.hid hgk
    have hk : k ≤ n := by omega
    clear hgk
    by_cases hlt : k < n
    · have hks : k < s.length := by have := HSL.out; omega
      obtain ⟨x, hxf, hxk, hxv⟩ := HREP.out k (by omega) hks
      have hmany := manyT_one HPW.out hxf
      rw [hxk, ← HM.out] at hmany
      have HMANY := Lib.hid hmany
      have HSEL := Lib.hid (fun (j : Nat) (hj : j < f.length) (he : f[j].1 = s[k].1) => (show f[j].2 ≤ s[k].2 from by
        have := same_of_key HPW.out (List.getElem_mem hj) hxf (by omega)
        rw [this]; exact hxv))
      have HST := Lib.hid (fun W (hW : Below wr.heap.size wr W) => (HS3.out.later (hb.trans (hW.mono hb.size))).mail hks)
      have HMS := Lib.hid (fun j hj => manyT_succ (f := f) (v := s[k].1) (k := j) hj)
      have HM0 := Lib.hid (show manyT f s[k].1 0 = 0 from rfl)
      clear hxf hxk hxv hmany
      generalize s[k] = y at *
      obtain ⟨y1, y2⟩ := y
      dsimp only at HMANY HSEL HST HMS HM0
      have hk0 : (0 : Int) ≤ (k : Int) := by omega
      have hkn : (k : Int) < (n : Int) := by omega
      have hd1 : decide ((k : Int) < (n : Int)) = true := by simp; omega
      have hd2 : decide (k < n) = true := by simp; omega
      obtain ⟨w4, rfl⟩ : ∃ w4 : World, w4 = wr := ⟨_, rfl⟩
      go_wp2_with fail
      go_loopg [8, 9] m (fun gk v8 v9 wr => ∃ j : Nat, v9 = .int .i64 (j : Int) ∧ j + gk = m ∧ v8 = .int .i64 (manyT f y1 j : Int) ∧ Below w4.heap.size w4 wr)
      case atStart => exact ⟨0, rfl, by omega, by rw [HM0.out]; rfl, Below.refl _ _⟩
      case round =>
        obtain ⟨j, rfl, hgj, rfl, hbj⟩ := hrel
        have HGJ := Lib.hid hgj
        have hj : j ≤ m := by omega
        clear hgj
        by_cases hltj : j < m
        · have hjf : j < f.length := by have := HM.out; omega
          have hbr := hb.trans (hbj.mono hb.size)
          obtain ⟨bs, os, rfl, hs0, hs1⟩ := HST.out _ hbj
          obtain ⟨bf, of, rfl, hf0, hf1⟩ := (HF3.out.later hbr).mail hjf
          have hse := HSEL.out j hjf
          have hms := HMS.out j hjf
          have hmem := HMEM.out _ (List.getElem_mem hjf)
          have hcp : 0 < s.count f[j] := List.count_pos_iff.2 hmem
          have HTM := Lib.hid (fun (W : World) (h : Below wr.heap.size wr W) => times_ok n d2 (some ⟨bs, os, none⟩) s f[j] W (HS3.out.later (hbr.trans (h.mono hbr.size))) (by omega))
          generalize f[j] = z at *
          obtain ⟨z1, z2⟩ := z
          dsimp only at hse hms hf0 hf1 HTM
          generalize s.count (z1, z2) = ct at *
          have HMS2 := Lib.hid hms
          have hmb : manyT f y1 j ≤ m := by
            have h1 : manyT f y1 j ≤ (f.take j).length := List.countP_le_length
            rw [List.length_take] at h1; omega
          clear hms hmem
          generalize manyT f y1 j = mj at *
          have hbsz : bs < wr.heap.size := World.block_lt_of_cell? wr _ hs0
          have hbfz : bf < wr.heap.size := World.block_lt_of_cell? wr _ hf0
          have hj0 : (0 : Int) ≤ (j : Int) := by omega
          have hjm : (j : Int) < (m : Int) := by omega
          have hd3 : decide ((j : Int) < (m : Int)) = true := by simp; omega
          have hd4 : decide (j < m) = true := by simp; omega
          by_cases he : z1 = y1
          · subst he
            have hle2 := hse rfl
            have hmm : manyT f z1 (j + 1) = mj + 1 := by rw [HMS2.out, if_pos rfl]
            have HMM := Lib.hid hmm
            have hd5 : decide ((y2 : Int) < (z2 : Int)) = false := by simp; omega
            have hd6 : decide (y2 < z2) = false := by simp; omega
            have hct : ((ct : Int) == 0) = false := by simp; omega
            have hct2 : (ct == 0) = false := by simp; omega
            clear hse hmm hltj
            go_wp2_with fail
            go_quiet (fail)
            go_wp2_with fail
            go_cut [80] (fun s80 wx => s80 = .bool false ∧ Below wr.heap.size wr wx)
            case first =>
              go_region_held3 (fun w' => w'.cell? ⟨bs, os + k * 2 + 1, none⟩ = some (Value.int .i64 (y2 : Int)) ∧ w'.cell? ⟨bf, of + j * 2, none⟩ = some (Value.int .i64 (z1 : Int)) ∧ w'.cell? ⟨bf, of + j * 2 + 1, none⟩ = some (Value.int .i64 (z2 : Int)))
                (first | (exact ⟨hy1, hy2, hy3⟩) | (exact ⟨hs1, hf0, hf1⟩) | go_keep)
                ((go_at_call 8; refine (HTM.out _ ((below_drewN (Below.refl _ _) _).drew)).mono ?_; rintro e w5 ⟨rfl, hb5⟩; have hcz : Below wr.heap.size wr w5 := (below_drewN (Below.refl _ wr) _).drew.trans hb5; have hy1 := (hcz.cell (p := ⟨bs, os + k * 2 + 1, none⟩) hbsz).trans hs1; have hy2 := (hcz.cell (p := ⟨bf, of + j * 2, none⟩) hbfz).trans hf0; have hy3 := (hcz.cell (p := ⟨bf, of + j * 2 + 1, none⟩) hbfz).trans hf1))
              all_goals go_wp2_with fail
              all_goals go_meet
              all_goals exact ⟨rfl, hcz⟩
            case rest =>
            obtain ⟨rfl, hcz⟩ := hcut
            have hbz := hbj.trans (hcz.mono hbj.size)
            go_wp2_with fail
            go_roundg (m - (j + 1))
            case measure => have := HGJ.out; omega
            case rel => exact ⟨j + 1, by go_num, by omega, by rw [HMM.out]; go_num, hbz⟩
          · have hne : ((z1 : Int) == (y1 : Int)) = false := by simp; omega
            have hmm : manyT f y1 (j + 1) = mj := by rw [HMS2.out, if_neg he]; rfl
            have HMM := Lib.hid hmm
            clear hse hmm he hltj
            go_wp2_with fail
            go_quiet (fail)
            go_wp2_with fail
            go_roundg (m - (j + 1))
            case measure => have := HGJ.out; omega
            case rel => exact ⟨j + 1, by go_num, by omega, by rw [HMM.out], below_drewN hbj _⟩
        · obtain rfl : m = j := by omega
          have hd3 : decide ((m : Int) < (m : Int)) = false := by simp
          have hd4 : decide (m < m) = false := by simp
          have hbr := Lib.hid (hb.trans (hbj.mono hb.size))
          rw [HMANY.out]
          clear hltj
          go_wp2_with fail
          go_roundg (n - (k + 1))
          case measure => have := HGK.out; omega
          case rel => exact ⟨k + 1, by go_num, by omega, hbr.out⟩
    · have hd1 : decide ((k : Int) < (n : Int)) = false := by simp; omega
      have hd2 : decide (k < n) = false := by simp; omega
      have hfin := Lib.hid (hbw.trans (hb.mono hbw.size))
      go_wp2_with fail
      go_ret
      exact ⟨rfl, hfin.out⟩
end Go.Proofs.Ytfecpifhfihikaa
