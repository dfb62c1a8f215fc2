/- The walk of paths.Strong. -/
import Derived.Test.YtiaflhlfodcbjaaReachC
import Derived.Deep.DeepCutAuto
import Derived.Test.YtiaflhlfodcbjaaRevG
import Derived.Test.YtiaflhlfodcbjaaPRndS
import Derived.Test.YtiaflhlfodcbjaaOwn3
import Derived.Deep.RegionHeld3
import Derived.Laws.MakeOwn
namespace Go.Proofs.Ytiaflhlfodcbjaa
open Go.RowKit
theorem box_kept0 {wr w2 : World} (hb : Below wr.drew.heap.size wr.drew w2) : Below wr.heap.size wr w2 := (Below.refl _ wr).drew.trans hb
/-- -1 up to k, 0 from there on -/
def negL (N k : Nat) : List Int := (List.range N).map fun u => if u < k then -1 else 0
theorem negL_len (N k : Nat) : (negL N k).length = N := by simp [negL]
theorem negL_zero (N : Nat) : negL N 0 = List.replicate N 0 := by
  apply List.ext_getElem?
  intro v
  unfold negL
  rw [List.getElem?_map, List.getElem?_replicate]
  by_cases hv : v < N
  · rw [List.getElem?_range hv, if_pos hv]; rfl
  · rw [List.getElem?_eq_none (by simp; omega), if_neg hv]; rfl
theorem negL_all (N : Nat) : negL N N = List.replicate N (-1) := by
  apply List.ext_getElem?
  intro v
  unfold negL
  rw [List.getElem?_map, List.getElem?_replicate]
  by_cases hv : v < N
  · rw [List.getElem?_range hv, if_pos hv]; simp [hv]
  · rw [List.getElem?_eq_none (by simp; omega), if_neg hv]; rfl
theorem negL_set {N k : Nat} (hk : k < N) : (negL N k).set k (-1) = negL N (k + 1) := by
  apply List.ext_getElem?
  intro v
  rw [List.getElem?_set, negL_len]
  unfold negL
  rw [List.getElem?_map, List.getElem?_map]
  by_cases hv : v < N
  · rw [List.getElem?_range hv]
    by_cases he : k = v
    · subst he; rw [if_pos rfl, if_pos hk]; simp
    · rw [if_neg he]
      simp only [Option.map_some, Option.some.injEq]
      split <;> split <;> first | rfl | omega
  · rw [List.getElem?_eq_none (by simp; omega), if_neg (by omega)]; rfl
set_option maxRecDepth 100000 in
theorem made_bools (N : Nat) (hN : N ≤ 200) (W : World) : (Instr.makeSlice 84 (.int .i64 (N : Int)) (.int .i64 (N : Int))).run Try.prog W = .ok (.slice (some ⟨W.heap.size, 0, none⟩) N N) (W.alloc (.cells (madeCells #[.bool false] N) 4)) := by
  obtain ⟨i0, hi, hj0, hj1, hj2⟩ := info_parts inf_bool
  have h := run_make (P := Try.prog) (w := W) 84 4 i0 (.bool false) rfl hi hj0 .i64 .i64 (N : Int) (N : Int) (by omega) (Int.le_refl _) (by rw [hj2]; omega) (by omega)
  rw [hj1, Int.toNat_natCast, Nat.mul_one] at h
  exact h
theorem two_made (N : Nat) (hN : N ≤ 200) (w : World) : ((w.alloc (.cells (madeCells #[.bool false] N) 4)).alloc (.cells (madeCells #[.bool false] N) 4)).drew.ownsRow w.heap.size 4 1 (.slice (some ⟨w.heap.size, 0, none⟩) N N) N (bls (List.replicate N false)) ∧
    ((w.alloc (.cells (madeCells #[.bool false] N) 4)).alloc (.cells (madeCells #[.bool false] N) 4)).drew.ownsRow w.heap.size 4 1 (.slice (some ⟨w.heap.size + 1, 0, none⟩) N N) N (bls (List.replicate N false)) ∧ Below w.heap.size w ((w.alloc (.cells (madeCells #[.bool false] N) 4)).alloc (.cells (madeCells #[.bool false] N) 4)).drew := by
  have e : (w.alloc (.cells (madeCells #[.bool false] N) 4)).heap.size = w.heap.size + 1 := by simp
  have h1 := World.ownsRow_lit (base := w.heap.size) (e := 4) (size := 1) w (madeCells #[.bool false] N) N (Nat.le_refl _) (by unfold maxLen; omega) (by rw [size_madeCells, Nat.mul_one])
  have h2 := World.ownsRow_lit (base := w.heap.size) (e := 4) (size := 1) (w.alloc (.cells (madeCells #[.bool false] N) 4)) (madeCells #[.bool false] N) N (by omega) (by unfold maxLen; omega) (by rw [size_madeCells, Nat.mul_one])
  rw [toList_madeCells_one, ← bls_rep] at h1 h2
  rw [e] at h2
  exact ⟨own_drew (h1.alloc _), own_drew h2, below_drew (((Below.refl _ w).alloc (Nat.le_refl _) _).alloc (by omega) _)⟩
set_option maxHeartbeats 16000000 in
set_option maxRecDepth 100000 in
theorem strong_ok (N n c : Nat) (p : Option Addr) (E : List Eg) (w : World) (h : Sl w 3 (.slice p n c) n (ecs E)) (hG : InG N E) (hN : N ≤ 200) (hn : n ≤ 600) :
    Calls Try.prog 21 #[.agg #[.int .i64 (N : Int), .slice p n c]] w fun e w' => ∃ g, e = .returned (.tuple #[.slice (some ⟨g, 0, none⟩) N N, .int .i64 0]) ∧ w'.ownsRow w.heap.size 3 1 (.slice (some ⟨g, 0, none⟩) N N) N (its (labs E N N 0)) ∧ Below w.heap.size w w' := by
  have hEn := h.elen.1
  have HRV := Lib.hid (fun (W : World) (h' : Below w.heap.size w W) => reverseG_ok N n c p E W (h.later h') hG hN hn)
  have HHP := Lib.hid (fun (W : World) (h' : Below w.heap.size w W) => hopsP_ok N n c p E W (h.later h') hG hN hn)
  have hE6 : E.length ≤ 600 := by omega
  have hT6 : (srt cfE (revL E)).length ≤ 600 := by rw [srt_len]; unfold revL; rw [List.length_map]; exact hE6
  have HTG := Lib.hid hG.rev.srt
  have HGE := Lib.hid hG
  have HMT := Lib.hid (fun u v => show Rch (srt cfE (revL E)) v u ↔ Rch E u v from (rch_perm (srt_perm (revL E)) v u).trans (rch_rev E v u))
  clear h hEn hG
  generalize srt cfE (revL E) = T at *
  obtain ⟨b0, B0, hz0⟩ := boxed0 w [.int .i64 (N : Int), .slice p n c] 25
  obtain ⟨ha0, ha1, _, _⟩ := B0.two
  go_enter Try.func21, Try.ntmps21
  go_wp2_with fail
  refine (HRV.out _ b0).mono ?_; rintro e w1 ⟨q1, d1, rfl, ho1, hb1⟩
  clear ha0 ha1
  have X1 := B0.next hb1
  have hw1 := b0.trans (hb1.mono (by omega))
  have hz1 := Nat.le_trans hz0 hb1.size
  clear hb1 b0 B0 hz0
  generalize w.alloc (.cells #[.int .i64 (N : Int), .slice p n c] 25) = W0 at *
  have HST := Lib.hid (Sl.of_own ho1)
  clear ho1
  obtain ⟨b4, B4, hz4⟩ := boxed0 w1 [.int .i64 (N : Int), .slice q1 n d1] 25
  have X4 := X1.next b4
  have hw4 := hw1.trans (b4.mono hw1.size)
  have hs4 : (w1.alloc (.cells #[.int .i64 (N : Int), .slice q1 n d1] 25)).heap.size = w1.heap.size + 1 := by simp
  obtain ⟨i0, hi, hj0, hj1, hj2⟩ := info_parts inf_int
  obtain ⟨wm, hrun, hom, hgm⟩ := run_make_full (P := Try.prog) (w1.alloc (.cells #[.int .i64 (N : Int), .slice q1 n d1] 25)) (w1.heap.size + 1) 38 3 i0 (.int .i64 0) 1 rfl hi hj0 hj1 .i64 .i64 N (by rw [hj2]; omega) (by unfold maxLen; omega) (by omega)
  have hbm := (Below.refl (w1.alloc (.cells #[.int .i64 (N : Int), .slice q1 n d1] 25)).heap.size _).grown hgm (Nat.le_refl _) (fun k hk => by cases hk)
  rw [hs4] at hrun hom
  have hom2 : wm.ownsRow (w1.heap.size + 1) 3 1 (.slice (some ⟨w1.heap.size + 1, 0, none⟩) N N) N (its (negL N 0)) := by
    rw [negL_zero, its_rep, ← toList_madeCells_one]
    rw [Nat.mul_one] at hom
    exact hom
  have Y1 := X4.next hbm
  have Y4 := B4.next hbm
  have hwm := hw4.trans (hbm.mono hw4.size)
  have hA1 : Agree w1 wm 0 w1.heap.size := (agree_below b4 (Nat.le_refl _)).trans (agree_below hbm (by omega))
  obtain ⟨ha0, ha1, _, _⟩ := X4.two
  have hgs := (hom2.lt _ rfl).2
  have hwz := hw1.size
  clear hom hgm hi hj0 hj1 hj2 X1 X4 B4 hbm b4 hw4
  go_wp2_with fail
  clear ha0 ha1 hrun hs4 hz4
  obtain ⟨g, hg⟩ : ∃ g, g = w1.heap.size + 1 := ⟨_, rfl⟩
  obtain ⟨bx4, hbx4⟩ : ∃ b, b = w1.heap.size := ⟨_, rfl⟩
  rw [← hg] at hom2 hgs ⊢
  rw [← hbx4] at Y4 ⊢
  have hgx : bx4 < g := by omega
  have hgw : w.heap.size < bx4 := by omega
  have hA1g : w1.heap.size ≤ g := by omega
  have hA1m : w1.heap.size ≤ wm.heap.size := by omega
  clear hg hbx4 hwz hz1 hw1
  go_loopg [27] N (fun gk v27 wr => ∃ k : Nat, v27 = .int .i64 (k : Int) ∧ k + gk = N ∧ wr.ownsRow g 3 1 (.slice (some ⟨g, 0, none⟩) N N) N (its (negL N k)) ∧ wm.grownBy wr (some g))
  case atStart => exact ⟨0, rfl, by omega, hom2, World.grownBy.refl _ _⟩
  case round =>
    clear hom2
    obtain ⟨k, rfl, hgk, ho, hgr⟩ := hrel
    have HGK := Lib.hid hgk
    have hk : k ≤ N := by omega
    clear hgk
    by_cases hlt : k < N
    · have hcl := ho.cellAt k (by omega)
      have hfr := ho.frozenAt k
      rw [its_at (x := (negL N k)[k]'(by rw [negL_len]; exact hlt)) (List.getElem?_eq_getElem _)] at hcl
      have hst := (ho.stored k (.int .i64 (-1))).1
      rw [← its_set, negL_set hlt] at hst
      have hk0 : (0 : Int) ≤ (k : Int) := by omega
      have hkN : (k : Int) < (N : Int) := by omega
      have hd1' : decide ((k : Int) < (N : Int)) = true := by simp; omega
      have hd2' : decide (k < N) = true := by simp; omega
      generalize (negL N k)[k]'(by rw [negL_len]; exact hlt) = old at hcl
      go_wp2_with fail
      go_roundg (N - (k + 1))
      case measure => have := HGK.out; omega
      case rel => exact ⟨k + 1, by go_num, by omega, hst, grown_trans hgr grown_set⟩
    · obtain rfl : N = k := by omega
      have hd1' : decide ((N : Int) < (N : Int)) = false := by simp
      rw [negL_all, ← labs_zero E] at ho
      have Z1 := Y1.grown hgr (fun e => by cases e; omega)
      have Z4 := Y4.grown hgr (fun e => by cases e; omega)
      have hbr := hwm.grown hgr hwm.size (fun j hj => by cases hj; omega)
      obtain ⟨hx0, hx1, _, _⟩ := Z1.two
      obtain ⟨hy0, hy1, _, _⟩ := Z4.two
      obtain ⟨wo, rfl⟩ : ∃ wo : World, wo = wr := ⟨_, rfl⟩
      have hsT' : Sl wo 3 (.slice q1 n d1) n (ecs T) := HST.out.agree (hA1.trans (agree_grown hgr hA1m (.inr hA1g)))
      have hgo : g < wo.heap.size := (ho.lt _ rfl).2
      go_wp2_with fail
      go_region_held3 (fun w' => w'.cell? ⟨w.heap.size, 0, none⟩ = some (Value.int .i64 (N : Int)) ∧ w'.cell? ⟨w.heap.size, 1, none⟩ = some (Value.slice p n c) ∧ w'.cell? ⟨bx4, 0, none⟩ = some (Value.int .i64 (N : Int)) ∧ w'.cell? ⟨bx4, 1, none⟩ = some (Value.slice q1 n d1))
        (first | (exact ⟨hu0, hu1, hu2, hu3⟩) | (exact ⟨ht0, ht1, ht2, ht3⟩) | go_keep)
        (first
          | (go_at_call_of 38 (Value.slice p n c); refine (HHP.out _ (below_drew hbr)).mono ?_; rintro e w5 ⟨g5, rfl, hM5, hg5, hg5b, hb5⟩; have hb5o := box_kept0 hb5; obtain ⟨hu0, hu1, _, _⟩ := (Z1.next hb5o).two; obtain ⟨hu2, hu3, _, _⟩ := (Z4.next hb5o).two)
          | (go_at_call_of 38 (Value.slice q1 n d1); refine (hopsP_ok N n d1 q1 T _ (hsT'.later hb5o) HTG.out hN hn).mono ?_; rintro e w6 ⟨g6, rfl, hM6, hg6, hg6b, hb6⟩; have hb6o := hb5o.trans (hb6.mono hb5o.size); obtain ⟨ht0, ht1, _, _⟩ := (Z1.next hb6o).two; obtain ⟨ht2, ht3, _, _⟩ := (Z4.next hb6o).two))
      have Q1 := Lib.hid (Z1.next hb6o)
      have ho6 := own_later ho hb6o
      have hA5 : Agree w5 w6 wo.heap.size w5.heap.size := agree_below hb6 (Nat.le_refl _)
      have hz5 := hb5o.size
      have hz6 := hb6.size
      have hbr6 := hbr.trans (hb6o.mono hbr.size)
      have HM5 := Lib.hid (show MemM w5 wo.heap.size g5 N (rowsL N E) from hM5)
      have HM6 := Lib.hid hM6
      clear hx0 hx1 hy0 hy1 hu0 hu1 hu2 hu3 ht0 ht1 ht2 ht3 Z1 Z4 hM5 hM6 ho hgr hbr hsT' hb5 hb5o hb6 hb6o hd1' hg5 hg6 Y1 Y4 hA1 hwm
      go_wp2_with fail
      go_loopg [40] N (fun gk v40 wr => ∃ k : Nat, v40 = .int .i64 (k : Int) ∧ k + gk = N ∧ wr.ownsRow g 3 1 (.slice (some ⟨g, 0, none⟩) N N) N (its (labs E N k 0)) ∧ w6.grownBy wr (some g))
      case atStart => exact ⟨0, rfl, by omega, ho6, World.grownBy.refl _ _⟩
      case round =>
        clear ho6
        obtain ⟨k, rfl, hgk, ho, hgr⟩ := hrel
        have HGK := Lib.hid hgk
        have hk : k ≤ N := by omega
        clear hgk
        have hwz := hgr.size
        by_cases hkl : k < N
        · have hcl := ho.cellAt k (by omega)
          rw [its_at (labs_at hkl), if_neg (by omega)] at hcl
          have hk0 : (0 : Int) ≤ (k : Int) := by omega
          have hkN : (k : Int) < (N : Int) := by omega
          have hd1' : decide ((k : Int) < (N : Int)) = true := by simp; omega
          have hd2' : decide (k < N) = true := by simp; omega
          by_cases hsk : lbl E k k = -1
          · rw [hsk] at hcl
            have HSK := Lib.hid hsk
            clear hsk
            have hmk := made_bools N hN
            have hxc := (Q1.out.grown hgr (fun e => by cases e; omega)).two
            obtain ⟨hx0, hx1, _, _⟩ := hxc
            obtain ⟨wp, rfl⟩ : ∃ wp : World, wp = wr := ⟨_, rfl⟩
            go_upto_region 15 with fail
            go_cut [11, 12] (fun s11 s12 wx => ∃ ga gb, s11 = .slice (some ⟨ga, 0, none⟩) N N ∧ s12 = .slice (some ⟨gb, 0, none⟩) N N ∧ ga ≠ gb ∧ wp.heap.size ≤ ga ∧ wp.heap.size ≤ gb ∧ wx.ownsRow wp.heap.size 4 1 (.slice (some ⟨ga, 0, none⟩) N N) N (bls (List.replicate N false)) ∧ wx.ownsRow wp.heap.size 4 1 (.slice (some ⟨gb, 0, none⟩) N N) N (bls (List.replicate N false)) ∧ Below wp.heap.size wp wx)
            case first =>
              obtain ⟨tm1, tm2, tm3⟩ := two_made N hN wp
              go_region_held3 (fun w' => w'.cell? ⟨w.heap.size, 0, none⟩ = some (Value.int .i64 (N : Int))) (go_keep) (fail)
              all_goals
                go_wp2_with fail
                go_meet
                case rel => first | exact ⟨_, _, rfl, rfl, by omega, by omega, by omega, tm1, tm2, tm3⟩ | exact ⟨_, _, rfl, rfl, by omega, by omega, by omega, tm2, tm1, tm3⟩
            case rest =>
              obtain ⟨ga, gb, rfl, rfl, hab, hga, hgb, hoa, hob, hbx⟩ := hcut
              clear hmk hcl
              have hgx' : w6.grownBy wc (some g) := grown_trans hgr (grown_belowS hbx)
              have hlx := own_later ho hbx
              have hs5 := HM5.out.serve (s := ga) (hA5.trans (agree_grown hgx' hz6 (.inl hgo))) (by have := hgx'.size; omega) (.inr (by omega))
              go_wp2_with fail
              refine (search_ok N k g5 ga wp.heap.size E wc hs5 hoa HGE.out hN hE6 hkl).mono ?_; rintro e w7 ⟨rfl, hoa7, hg7⟩
              clear hs5 hoa
              have hg67 : w6.grownBy w7 (some g) := grown_new hgx' hg7 (fun j hj => by cases hj; omega)
              have hob7 := own_grown hob hg7 (fun j hj e => by cases hj; cases e; exact hab rfl)
              have hl7 := own_grown hlx hg7 (fun j hj e => by have h1 : g = j := Option.some.inj hj; have h2 : ga = j := Option.some.inj e; omega)
              have hs6 := HM6.out.serve (s := gb) (agree_grown hg67 (Nat.le_refl _) (.inl (by omega))) (by have := hg67.size; omega) (.inr (by omega))
              clear hob hlx
              go_wp2_with fail
              refine (search_ok N k g6 gb wp.heap.size T w7 hs6 hob7 HTG.out hN hT6 hkl).mono ?_; rintro e w8 ⟨rfl, hob8, hg8⟩
              clear hs6 hob7
              have hg68 : w6.grownBy w8 (some g) := grown_new hg67 hg8 (fun j hj => by cases hj; omega)
              have hoa8 := own_grown hoa7 hg8 (fun j hj e => by cases hj; cases e; exact hab rfl)
              have hl8 := own_grown hl7 hg8 (fun j hj e => by have h1 : g = j := Option.some.inj hj; have h2 : gb = j := Option.some.inj e; omega)
              clear hoa7 hl7 hg7 hg8
              go_wp2_with fail
              go_loopg [64] N (fun gk v64 wr => ∃ j : Nat, v64 = .int .i64 (j : Int) ∧ j + gk = N ∧ wr.ownsRow g 3 1 (.slice (some ⟨g, 0, none⟩) N N) N (its (labs E N k j)) ∧ wr.ownsRow wp.heap.size 4 1 (.slice (some ⟨ga, 0, none⟩) N N) N (bls (reachL N E k)) ∧ wr.ownsRow wp.heap.size 4 1 (.slice (some ⟨gb, 0, none⟩) N N) N (bls (reachL N T k)) ∧ w6.grownBy wr (some g))
              case atStart => exact ⟨0, rfl, by omega, hl8, hoa8, hob8, hg68⟩
              case round =>
                clear hl8 hoa8 hob8 hg68
                obtain ⟨j, rfl, hgj, hl, hoa, hob, hgj6⟩ := hrel
                have HGJ := Lib.hid hgj
                have hj : j ≤ N := by omega
                clear hgj
                by_cases hjl : j < N
                · have HA := Lib.hid (reach_cell hoa hjl)
                  have HB := Lib.hid (reach_cell hob hjl)
                  have hj0 : (0 : Int) ≤ (j : Int) := by omega
                  have hjN : (j : Int) < (N : Int) := by omega
                  have hd5' : decide ((j : Int) < (N : Int)) = true := by simp; omega
                  have hd6' : decide (j < N) = true := by simp; omega
                  by_cases h1 : Rch E k j
                  · have hca := HA.out.1 h1
                    by_cases h2 : Rch T k j
                    · have hcb := HB.out.1 h2
                      have hst := (hl.stored j (.int .i64 (k : Int))).1
                      rw [← its_set, labs_yes HSK.out hjl ⟨h1, (HMT.out j k).1 h2⟩] at hst
                      have hfr := hl.frozenAt j
                      have hco := hl.cellAt j (by omega)
                      rw [its_at (labs_at hjl)] at hco
                      generalize (if j < j then lbl E (k + 1) j else lbl E k j) = old at hco
                      have hoa' := own_setCell_ne hoa (a := ⟨g, j, none⟩) (fun e => by cases e; omega) (.int .i64 (k : Int))
                      have hob' := own_setCell_ne hob (a := ⟨g, j, none⟩) (fun e => by cases e; omega) (.int .i64 (k : Int))
                      clear h1 h2
                      go_wp2_with fail
                      go_roundg (N - (j + 1))
                      case measure => have := HGJ.out; omega
                      case rel => exact ⟨j + 1, by go_num, by omega, hst, hoa', hob', grown_trans hgj6 grown_set⟩
                    · have hcb := HB.out.2 h2
                      rw [labs_no HSK.out (fun hm => h2 ((HMT.out j k).2 hm.2))] at hl
                      clear h1 h2
                      go_wp2_with fail
                      go_roundg (N - (j + 1))
                      case measure => have := HGJ.out; omega
                      case rel => exact ⟨j + 1, by go_num, by omega, hl, hoa, hob, hgj6⟩
                  · have hca := HA.out.2 h1
                    rw [labs_no HSK.out (fun hm => h1 hm.1)] at hl
                    clear h1
                    go_wp2_with fail
                    go_roundg (N - (j + 1))
                    case measure => have := HGJ.out; omega
                    case rel => exact ⟨j + 1, by go_num, by omega, hl, hoa, hob, hgj6⟩
                · obtain rfl : N = j := by omega
                  have hd5' : decide ((N : Int) < (N : Int)) = false := by simp
                  rw [labs_next] at hl
                  go_wp2_with fail
                  go_roundg (N - (k + 1))
                  case measure => have := HGK.out; omega
                  case rel => exact ⟨k + 1, by go_num, by omega, hl, hgj6⟩
          · rw [labs_skip hsk] at ho
            have hne : (lbl E k k != -1) = true := by simpa using hsk
            clear hsk
            generalize lbl E k k = L at *
            go_wp2_with fail
            go_roundg (N - (k + 1))
            case measure => have := HGK.out; omega
            case rel => exact ⟨k + 1, by go_num, by omega, ho, hgr⟩
        · obtain rfl : N = k := by omega
          have hd1' : decide ((N : Int) < (N : Int)) = false := by simp
          go_wp2_with fail
          go_ret2
          exact ⟨g, rfl, own_mono ho (by omega), hbr6.grown hgr hbr6.size (fun j hj => by cases hj; omega)⟩
end Go.Proofs.Ytiaflhlfodcbjaa
