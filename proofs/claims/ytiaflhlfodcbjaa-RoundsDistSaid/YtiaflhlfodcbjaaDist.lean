/- The walk of paths.Dist. -/
import Derived.Test.YtiaflhlfodcbjaaDistL
import Derived.Test.YtiaflhlfodcbjaaHopsP
import Derived.Test.YtiaflhlfodcbjaaCheck
namespace Go.Proofs.Ytiaflhlfodcbjaa
open Go.RowKit Go.Sort Go.Proofs
set_option maxHeartbeats 8000000 in
set_option maxRecDepth 100000 in
theorem distP_ok (N n c v : Nat) (p : Option Addr) (E : List Eg) (w : World) (h : Sl w 3 (.slice p n c) n (ecs E)) (hG : InG N E) (hN : N ≤ 200) (hn : n ≤ 600) (hv : v < N) :
    Calls Try.prog 22 #[.agg #[.int .i64 (N : Int), .slice p n c], .int .i64 (v : Int)] w fun e w' => ∃ g far, e = .returned (.tuple #[.slice (some ⟨g, 0, none⟩) N N, .int .i64 0]) ∧ w'.ownsRow w.heap.size 3 1 (.slice (some ⟨g, 0, none⟩) N N) N (fds far) ∧ far.length = N ∧ Told E v far ∧ (∀ y, fv far y ≤ 10 * (E.length + 1) + 1) ∧ Below w.heap.size w w' := by
  have hEn := h.elen.1
  have HCH := Lib.hid (fun (W : World) (h' : Below w.heap.size w W) => check_ok N n c p E W (h.later h') hG hN hn)
  have HHP := Lib.hid (fun (W : World) (h' : Below w.heap.size w W) => hopsP_ok N n c p E W (h.later h') hG hN hn)
  have hE6 : E.length ≤ 600 := by omega
  clear h hEn
  have HG := Lib.hid hG
  clear hG
  obtain ⟨b0, B0, hz0⟩ := boxed0 w [.int .i64 (N : Int), .slice p n c] 25
  obtain ⟨ha0, ha1, _, _⟩ := B0.two
  have hd1 : decide ((v : Int) < 0) = false := by simp <;> omega
  have hd2 : decide ((N : Int) ≤ (v : Int)) = false := by simp; omega
  have hd3 : decide (N ≤ v) = false := by simp; omega
  go_enter Try.func22, Try.ntmps22
  go_wp2_with fail
  refine (HCH.out _ b0).mono ?_; rintro e w1 ⟨rfl, hb1⟩
  clear ha0 ha1
  have X1 := B0.next hb1
  have hw1 := b0.trans (hb1.mono (by omega))
  have hz1 := Nat.le_trans hz0 hb1.size
  clear hb1 b0 B0 hz0
  generalize w.alloc (.cells #[.int .i64 (N : Int), .slice p n c] 25) = W0 at *
  obtain ⟨i0, hi, hj0, hj1, hj2⟩ := info_parts inf_int
  obtain ⟨wm, hrun, hom, hgm⟩ := run_make_full (P := Try.prog) w1 w1.heap.size 38 3 i0 (.int .i64 0) 1 rfl hi hj0 hj1 .i64 .i64 N (by rw [hj2]; omega) (by unfold maxLen; omega) (Nat.le_refl _)
  have hbm := (Below.refl w1.heap.size w1).grown hgm (Nat.le_refl _) (fun k hk => by cases hk)
  have hom2 : wm.ownsRow w1.heap.size 3 1 (.slice (some ⟨w1.heap.size, 0, none⟩) N N) N (fds (List.replicate N 1)) := by
    rw [fds_ones, ← toList_madeCells_one]
    rw [Nat.mul_one] at hom
    exact hom
  have X2 := X1.next hbm
  obtain ⟨ha0, ha1, _, _⟩ := X1.two
  have hgs := (hom2.lt _ rfl).2
  clear hom hgm hi hj0 hj1 hj2 X1
  go_wp2_with fail
  clear ha0 ha1 hrun
  have hwm := hw1.trans (hbm.mono hw1.size)
  obtain ⟨s, hs⟩ : ∃ s, s = w1.heap.size := ⟨_, rfl⟩
  rw [← hs] at hom2 hgs hz1 hbm ⊢
  have hsw : w.heap.size + 1 ≤ s := hz1
  clear hw1 hbm hz1 hs
  go_loopg [32] N (fun gk v32 wr => ∃ (i : Nat) (far : List Nat), v32 = .int .i64 (i : Int) ∧ i + gk = N ∧ far.length = N ∧ Hid (∀ j, j < i → far[j]? = some 0) ∧ wr.ownsRow s 3 1 (.slice (some ⟨s, 0, none⟩) N N) N (fds far) ∧ Hid (Bx wr w.heap.size [.int .i64 (N : Int), .slice p n c]) ∧ Below w.heap.size w wr)
  case atStart => exact ⟨0, _, rfl, by omega, by simp, Lib.hid (fun j hj => absurd hj (Nat.not_lt_zero j)), hom2, Lib.hid X2, hwm⟩
  case round =>
    clear hom2 X2 hwm hgs
    obtain ⟨i, far, rfl, hgk, hfl, HFI, ho, HX, hb⟩ := hrel
    have HGK := Lib.hid hgk
    have hi : i ≤ N := by omega
    clear hgk
    by_cases hlt : i < N
    · have hcc := ho.cellAt i (by omega)
      rw [fds_at (by omega)] at hcc
      have hcf := ho.frozenAt i
      have hst := (ho.stored i (.int .i64 (-1))).1
      rw [← fds_none] at hst
      have hX3 := Lib.hid (bx_oth HX.out (a := ⟨s, i, none⟩) (by show w.heap.size ≠ s; omega) (.int .i64 (-1)))
      have hb3 : Below w.heap.size w (wr.setCell ⟨s, i, none⟩ (.int .i64 (-1))) := hb.setCell (by show w.heap.size ≤ s; omega) _
      have HFS := Lib.hid (fill_step (by omega : i < far.length) HFI.out)
      have hi0 : (0 : Int) ≤ (i : Int) := by omega
      have hiN : (i : Int) < (N : Int) := by omega
      go_wp2_with fail
      go_roundg (N - (i + 1))
      case measure => have := HGK.out; omega
      case rel => exact ⟨i + 1, _, by go_num, by omega, by rw [List.length_set]; exact hfl, HFS, hst, hX3, hb3⟩
    · obtain rfl : N = i := by omega
      have hfr := fill_end hfl HFI.out
      rw [hfr] at ho
      obtain ⟨ha0, ha1, _, _⟩ := HX.out.two
      clear hfr HFI hfl hlt
      go_wp2_with fail
      clear ha0 ha1
      refine (HHP.out wr hb).mono ?_; rintro e w2 ⟨gN, rfl, hM, hg1, hg2, hb2⟩
      have hsl : s < wr.heap.size := (ho.lt _ rfl).2
      have ho2 := own_later ho hb2
      have HX2 := Lib.hid (HX.out.next hb2)
      have hw2 := hb.trans (hb2.mono hb.size)
      have hz2 := hb2.size
      have HM := Lib.hid hM
      clear hM ho hb hb2 HX
      generalize wr.heap.size = lo at *
      go_upto_region 14 with fail
      have hSP := spSt_begin w2 v w.heap.size [.int .i64 (N : Int), .slice p n c] 89 HX2.out
      have hb4 : Below w2.heap.size w2 ((w2.alloc (.cells #[.int .i64 (v : Int), .int .i64 0] 87)).alloc (.cells #[.slice (some ⟨w2.heap.size, 0, none⟩) 1 1] 89)) :=
        (alloc_below w2 _).trans ((alloc_below (w2.alloc (.cells #[.int .i64 (v : Int), .int .i64 0] 87)) _).mono (by simp))
      obtain ⟨B, hB⟩ : ∃ B, B = w2.heap.size := ⟨_, rfl⟩
      rw [← hB] at hSP hb4 hg2 hz2 ⊢
      have hMB : ∀ (x : Nat) (r : List (Nat × Nat)), (rowsL N E)[x]? = some r → ∃ p c, ∀ W : World, Agree w2 W lo B → W.cell? ⟨gN, x, none⟩ = some (.slice p r.length c) ∧ Sl W 2 (.slice p r.length c) r.length (mcs r) := by rw [hB]; exact HM.out.2
      have HMB := Lib.hid hMB
      have hFR : FrD w w2 s s lo B N w.heap.size [.int .i64 (N : Int), .slice p n c] (List.replicate N 0) ((w2.alloc (.cells #[.int .i64 (v : Int), .int .i64 0] 87)).alloc (.cells #[.slice (some ⟨B, 0, none⟩) 1 1] 89)) :=
        ⟨own_bel ho2 hb4 (fun k hk => by cases hk; show s < B; omega), agree_below hb4 (Nat.le_refl _), hw2.trans (hb4.mono (by omega)), HX2.out.later hb4 (by omega)⟩
      generalize hwe : (w2.alloc (.cells #[.int .i64 (v : Int), .int .i64 0] 87)).alloc (.cells #[.slice (some ⟨B, 0, none⟩) 1 1] 89) = w4 at *
      clear hwe hb4 hMB HM hB HX2 hw2 ho2
      have hpe : pend E (List.replicate N 0) ≤ E.length := List.countP_le_length
      have hf0 : ∀ y, fv (List.replicate N 0) y = 0 := fun y => by
        unfold fv
        rw [List.getD_eq_getElem?_getD, List.getElem?_replicate]
        split <;> rfl
      have HD0 := Lib.hid (Dj.start E v N)
      go_loopg [11] (E.length + 1) (fun gk v11 wr => ∃ (Q : List (Nat × Nat)) (far : List Nat) (k u : Nat), k + gk = E.length + 1 ∧ Q.length + pend E far ≤ gk ∧ Hid (SpSt B (B + 1) w.heap.size [.int .i64 (N : Int), .slice p n c] wr Q) ∧ Hid (Hp leS Q) ∧ Hid (Dj E v far Q u []) ∧ far.length = N ∧ Hid (∀ q ∈ Q, q.2 ≤ 10 * k) ∧ Hid (∀ y, fv far y ≤ 10 * k + 1) ∧ Hid (FrD w w2 s s lo B N w.heap.size [.int .i64 (N : Int), .slice p n c] far wr))
      case atStart => exact ⟨[(v, 0)], _, 0, 0, by omega, by simp; omega, Lib.hid hSP, Lib.hid (hp_one _), HD0, by simp, Lib.hid (fun q hq => by rw [List.mem_singleton.1 hq]; omega), Lib.hid (fun y => by rw [hf0]; omega), Lib.hid hFR⟩
      case round =>
        clear hSP hFR hpe hf0 HD0
        obtain ⟨Q, far, k, u, hkg, hql, HSP, HHQ, HDJ, hfl, HQB, HFB, HFR⟩ := hrel
        have HKG := Lib.hid hkg
        have hk6 : k ≤ 601 := by omega
        have hgk6 : gk ≤ 601 := by omega
        obtain ⟨pq, cq, hcq⟩ := HSP.out.cell
        by_cases hQ : Q = []
        · subst hQ
          have hdq : decide ((0 : Int) < ((0 : Nat) : Int)) = false := by simp
          have htold := HDJ.out.done
          have hfb : ∀ y, fv far y ≤ 10 * (E.length + 1) + 1 := fun y => by have := HFB.out y; omega
          have hown := own_mono HFR.out.own (by omega : w.heap.size ≤ s)
          have hbw := HFR.out.below
          clear hkg hql
          go_wp2_with fail
          go_ret2
          exact ⟨s, far, rfl, hown, hfl, htold, hfb, hbw⟩
        · obtain ⟨m, hm⟩ : ∃ m, Q.length = m + 1 := ⟨Q.length - 1, by have := List.length_pos_iff.2 hQ; omega⟩
          clear hQ
          rw [hm] at hcq hql
          have hdq : decide ((0 : Int) < ((m + 1 : Nat) : Int)) = true := decide_eq_true (by omega)
          have hdq2 : decide ((0 : Int) < (m : Int) + 1) = true := decide_eq_true (by omega)
          have HPOP := Lib.hid (hpopS (spHeap B (B + 1) w.heap.size [.int .i64 (N : Int), .slice p n c]) Q m wr HSP.out HHQ.out hm (by omega))
          have HM1 := Lib.hid hm
          have HQL := Lib.hid hql
          clear hkg hql hm
          go_wp2_with fail
          refine HPOP.out.mono ?_; rintro e w5 ⟨a, l5, rfl, hs5, hh5, hp5, hle5, hb5⟩
          have HS5 := Lib.hid hs5
          have HH5 := Lib.hid hh5
          have hl5 : l5.length = m := by have := hp5.length_eq; rw [List.length_cons, HM1.out] at this; omega
          have haQ : a ∈ Q := hp5.mem_iff.1 (by simp)
          have haN := HDJ.out.inN HG.out hv a haQ
          have HDP := Lib.hid (HDJ.out.perm hp5)
          have HLE := Lib.hid (fun q (hq : q ∈ l5) => (show a.2 ≤ q.2 from hle5 q (hp5.mem_iff.1 (by simp [hq]))))
          have HQ5 := Lib.hid (fun q (hq : q ∈ l5) => HQB.out q (hp5.mem_iff.1 (by simp [hq])))
          have haB := HQB.out a haQ
          have HF5 := Lib.hid (HFR.out.next hb5 (by omega) (by omega) (by omega))
          obtain ⟨a1, a2⟩ := a
          dsimp only at haN HLE haB
          clear hs5 hh5 hp5 hle5 hb5 hcq hdq hdq2 HPOP haQ
          unfold spV
          dsimp only
          have hta : ∀ (W : World), (Instr.typeAssert (.iface 87 (.agg #[.int .i64 (a1 : Int), .int .i64 (a2 : Int)])) 20 87 false).run Try.prog W = .ok (.agg #[.int .i64 (a1 : Int), .int .i64 (a2 : Int)]) W := fun _ => by kernel_rfl
          go_upto_region 16 with fail
          have hlt5 := HS5.out.lt
          obtain ⟨hlt5a, hlt5b, -⟩ := hlt5
          have hb6 : Below w5.heap.size w5 (w5.alloc (.cells #[.int .i64 (a1 : Int), .int .i64 (a2 : Int)] 87)) := alloc_below w5 _
          have HS6 := Lib.hid (HS5.out.newBox [.int .i64 (a1 : Int), .int .i64 (a2 : Int)] 87)
          have HSB := Lib.hid (HS5.out.later hb6)
          have HF6 := Lib.hid (HF5.out.next (hb6.mono (by omega : B ≤ w5.heap.size)) (by omega) (by omega) (by omega))
          obtain ⟨x, hx⟩ : ∃ x, x = w5.heap.size := ⟨_, rfl⟩
          rw [← hx] at HS6 ⊢
          have hBx : B + 1 < x := by omega
          generalize hw6 : (w5.alloc (.cells #[.int .i64 (a1 : Int), .int .i64 (a2 : Int)] 87)) = w6 at *
          have HX6 := Lib.hid (show Bx w6 x [.int .i64 (a1 : Int), .int .i64 (a2 : Int)] from HS6.out.box)
          clear hw6 hx hb6 HS5 HF5 hta hlt5a hlt5b
          obtain ⟨hx0, hx1, _, _⟩ := HX6.out.two
          have hcc := HF6.out.own.cellAt a1 (by omega)
          rw [fds_at (by omega)] at hcc
          have hcf := HF6.out.own.frozenAt a1
          have ha0 : (0 : Int) ≤ (a1 : Int) := by omega
          have haN' : (a1 : Int) < (N : Int) := by omega
          by_cases hf : fv far a1 = 0
          · rw [hf] at hcc
            replace hcc : w6.cell? ⟨s, a1, none⟩ = some (.int .i64 (-1)) := hcc
            have HDT := Lib.hid (HDP.out.tell hf (by show a1 < far.length; omega) HLE.out)
            have HPE := Lib.hid (pend_set (E := E) (x := a2) (by show a1 < far.length; omega) hf)
            have HSG : SpSt B (B + 1) x [.int .i64 (a1 : Int), .int .i64 (a2 : Int)] (w6.setCell ⟨s, a1, none⟩ (.int .i64 (a2 : Int))) l5 := HS6.out.other (by omega) (by omega) _
            have HFG : FrD w w2 s s lo B N w.heap.size [.int .i64 (N : Int), .slice p n c] (far.set a1 (a2 + 1)) (w6.setCell ⟨s, a1, none⟩ (.int .i64 (a2 : Int))) := HF6.out.put hsl (by have := HX6.out.lt; omega) (by omega) (by omega) a2
            have hfl7 : (far.set a1 (a2 + 1)).length = N := by rw [List.length_set]; exact hfl
            have HFB7 := Lib.hid (fun y => (show fv (far.set a1 (a2 + 1)) y ≤ 10 * (k + 1) + 1 from by
              rw [fv_set (by show a1 < far.length; omega)]
              have := HFB.out y
              split <;> omega))
            have HFA := Lib.hid (show fv (far.set a1 (a2 + 1)) a1 = a2 + 1 from by rw [fv_set (by show a1 < far.length; omega), if_pos rfl])
            generalize far.set a1 (a2 + 1) = far7 at *
            go_upto_region 18 with fail
            generalize w6.setCell ⟨s, a1, none⟩ (.int .i64 (a2 : Int)) = w7 at *
            clear hx0 hx1 hcc hcf HS6 HSB HF6 HX6 HDP HFB HFR HSP hf
            have HS7 := Lib.hid HSG
            have HF7 := Lib.hid HFG
            clear HSG HFG
            obtain ⟨hx0, hx1, _, _⟩ := HS7.out.box.two
            obtain ⟨pr, cr, hR⟩ := HMB.out a1 _ (rowsL_at E haN)
            have hrl : (hopsL E a1).length ≤ 600 := by
              unfold hopsL
              rw [List.length_map]
              exact Nat.le_trans (List.length_filter_le _ _) hE6
            have HRE := Lib.hid (fun h (hh : h ∈ hopsL E a1) => (show h.1 < N ∧ h.2 < 10 from (HG.out _ (hop_edge.1 hh)).2))
            have HR := Lib.hid hR
            obtain ⟨hrow, -⟩ := hR w7 HF7.out.agree
            clear hR
            generalize hopsL E a1 = r at *
            have hql2 := HQL.out
            have hpe2 := HPE.out
            have HHB := Lib.hid (spHeap B (B + 1) x [.int .i64 (a1 : Int), .int .i64 (a2 : Int)])
            go_upto_region 19 with fail
            clear hx0 hx1 hrow
            go_loopg [68] r.length (fun ik v68 wr => ∃ (j : Nat) (l : List (Nat × Nat)), v68 = .int .i64 (j : Int) ∧ j + ik = r.length ∧ l.length = m + j ∧ Hid (SpSt B (B + 1) x [.int .i64 (a1 : Int), .int .i64 (a2 : Int)] wr l) ∧ Hid (Hp leS l) ∧ Hid (Dj E v far7 l a1 (r.drop j)) ∧ Hid (∀ q ∈ l, q.2 ≤ 10 * (k + 1)) ∧ Hid (FrD w w2 s s lo B N w.heap.size [.int .i64 (N : Int), .slice p n c] far7 wr))
            case atStart => exact ⟨0, l5, rfl, by omega, by omega, HS7, HH5, HDT, Lib.hid (fun q hq => by have := HQ5.out q hq; omega), HF7⟩
            case round =>
              clear HS7 HF7 HDT HH5 HQ5 HLE hl5
              obtain ⟨j, l, rfl, hji, hll, HS, HH, HD, HQ, HF⟩ := hrel
              have HJI := Lib.hid hji
              have hjr : j ≤ r.length := by omega
              clear hji
              by_cases hj : j < r.length
              · obtain ⟨_, hsl⟩ := HR.out wr HF.out.agree
                have hcc := hsl.mlen.2
                obtain ⟨hcc1, hcc2⟩ := hcc
                obtain ⟨b, off, rfl, hc0, hc1⟩ := hsl.mail hj
                have hmem := HRE.out _ (List.getElem_mem hj)
                have hdr := List.drop_eq_getElem_cons hj
                have hdj := HD.out
                rw [hdr] at hdj
                generalize r[j] = y at hmem hdr hdj hc0 hc1
                obtain ⟨y1, y2⟩ := y
                dsimp only at hmem hc0 hc1
                obtain ⟨hy1, hy2⟩ := hmem
                have hfu : fv far7 a1 = a2 + 1 := by rw [HFA.out]
                have hpu := hdj.push
                rw [hfu, Nat.add_sub_cancel] at hpu
                have HPU := Lib.hid hpu
                clear hdr hdj hpu hsl hfu
                obtain ⟨hx0, hx1, _, _⟩ := HS.out.box.two
                obtain ⟨hlt1, hlt2, -⟩ := HS.out.lt
                have hj0 : (0 : Int) ≤ (j : Int) := by omega
                have hjn : (j : Int) < (r.length : Int) := by omega
                have hdd1 : decide ((j : Int) < (r.length : Int)) = true := by simp; omega
                have hdd2 : decide (j < r.length) = true := by simp; omega
                have hwr : IntKind.i64.wrap ((a2 : Int) + (y2 : Int)) = ((a2 + y2 : Nat) : Int) := by rw [show (a2 : Int) + (y2 : Int) = ((a2 + y2 : Nat) : Int) by omega]; exact IntWalk.i64_in _ (by omega)
                have hb6 : Below wr.heap.size wr (wr.alloc (.cells #[.int .i64 (y1 : Int), .int .i64 (y2 : Int)] 94)) := alloc_below wr _
                have HS6 := Lib.hid (HS.out.later hb6)
                have HPS := Lib.hid (hpushS HHB.out l (y1, a2 + y2) _ HS6.out HH.out (by omega))
                have HF6 := Lib.hid (HF.out.next (hb6.mono (by omega : B ≤ wr.heap.size)) (by omega) (by omega) (by omega))
                obtain ⟨hz0, hz1, _, _⟩ := HS6.out.box.two
                clear hb6
                go_wp2_with fail
                refine HPS.out.mono ?_; rintro e w8 ⟨rfl, l8, hs8, hh8, hp8, hb8⟩
                have HS8 := Lib.hid hs8
                have HH8 := Lib.hid hh8
                have HD8 := Lib.hid (HPU.out.perm hp8)
                have hl8 : l8.length = m + (j + 1) := by have := hp8.length_eq; rw [List.length_append, List.length_singleton] at this; omega
                have HQ8 := Lib.hid (fun q (hq : q ∈ l8) => (show q.2 ≤ 10 * (k + 1) from by
                  rcases List.mem_append.1 (hp8.mem_iff.1 hq) with h | h
                  · exact HQ.out q h
                  · rw [List.mem_singleton.1 h]; show a2 + y2 ≤ _; omega))
                have HF8 := Lib.hid (HF6.out.next hb8 (by omega) (by omega) (by omega))
                clear hs8 hh8 hp8 hb8 hx0 hx1 hz0 hz1 hc0 hc1
                go_wp2_with fail
                go_roundg (r.length - (j + 1))
                case measure => have := HJI.out; omega
                case rel => exact ⟨j + 1, l8, by go_num, by omega, hl8, HS8, HH8, HD8, HQ8, HF8⟩
              · obtain rfl : j = r.length := by omega
                have hdd1 : decide ((r.length : Int) < (r.length : Int)) = false := by simp
                have hdn := HD.out
                rw [List.drop_length] at hdn
                have HDN := Lib.hid hdn
                have HSO := Lib.hid (HS.out.oldBox HF.out.box (by omega))
                clear hdn
                go_wp2_with fail
                go_roundg (E.length + 1 - (k + 1))
                case measure => have := HKG.out; omega
                case rel => exact ⟨l, far7, k + 1, a1, by have := HKG.out; omega, by have := HKG.out; omega, HSO, HH, HDN, hfl7, HQ, HFB7, HF⟩
          · obtain ⟨d, hd⟩ : ∃ d, fv far a1 = d + 1 := ⟨fv far a1 - 1, by omega⟩
            rw [hd] at hcc
            have he1 : (((d + 1 : Nat) : Int) - 1 != -1) = true := by simp
            have HDK := Lib.hid (HDP.out.skip (by show fv far a1 ≠ 0; exact hf))
            go_wp2_with fail
            go_roundg (gk - 1)
            case measure => have := HKG.out; have := HQL.out; omega
            case rel => exact ⟨l5, far, k + 1, u, by have := HKG.out; have := HQL.out; omega, by have := HQL.out; omega, HSB, HH5, HDK, hfl, Lib.hid (fun q hq => by have := HQ5.out q hq; omega), Lib.hid (fun y => by have := HFB.out y; omega), HF6⟩
end Go.Proofs.Ytiaflhlfodcbjaa
