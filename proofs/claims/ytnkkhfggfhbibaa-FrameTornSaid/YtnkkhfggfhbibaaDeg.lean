/- The walk of graph.Degrees. -/
import Derived.Test.YtnkkhfggfhbibaaCheck
import Derived.Laws.OwnMore
namespace Go.Proofs.Ytnkkhfggfhbibaa
open Go.RowKit
/-- numbers as cells -/
def nts (l : List Nat) : List Value := l.map fun (x : Nat) => Value.int .i64 (x : Int)
theorem nts_len (l : List Nat) : (nts l).length = l.length := by simp [nts]
theorem nts_set (l : List Nat) (i x : Nat) : nts (l.set i x) = (nts l).set i (.int .i64 (x : Int)) := by simp [nts, List.map_set]
theorem nts_at {l : List Nat} {i : Nat} (h : i < l.length) : (nts l)[i]? = some (.int .i64 (l[i] : Int)) := by simp [nts, h]
theorem nts_zero (n : Nat) : nts (List.replicate n 0) = List.replicate n (.int .i64 0) := by simp [nts]
def degsL (N : Nat) (E : List Eg) : List Nat := (List.range N).map (degL E)
theorem degsL_len (N : Nat) (E : List Eg) : (degsL N E).length = N := by simp [degsL]
theorem degsL_at {N v : Nat} (E : List Eg) (h : v < N) : (degsL N E)[v]? = some (degL E v) := by simp [degsL, h]
theorem degL_take {E : List Eg} {k v : Nat} (h : k < E.length) : degL (E.take (k + 1)) v = degL (E.take k) v + if E[k].1 = v then 1 else 0 := by
  unfold degL
  rw [List.take_succ_eq_append_getElem h, List.countP_append, List.countP_singleton]; simp
theorem degsL_take {N : Nat} {E : List Eg} {k : Nat} (h : k < E.length) : degsL N (E.take (k + 1)) = (degsL N (E.take k)).set E[k].1 (degL (E.take k) E[k].1 + 1) := by
  apply List.ext_getElem?
  intro v
  by_cases hv : v < N
  · rw [degsL_at _ hv, degL_take h, List.getElem?_set, degsL_len, degsL_at _ hv]
    by_cases he : E[k].1 = v
    · subst he; rw [if_pos rfl, if_pos rfl, if_pos hv]
    · rw [if_neg he, if_neg he]; rfl
  · rw [List.getElem?_eq_none (by rw [degsL_len]; omega), List.getElem?_eq_none (by rw [List.length_set, degsL_len]; omega)]
theorem degsL_nil (N : Nat) : degsL N [] = List.replicate N 0 := by
  apply List.ext_getElem?
  intro v
  by_cases hv : v < N
  · rw [degsL_at _ hv, List.getElem?_replicate, if_pos hv]; rfl
  · rw [List.getElem?_eq_none (by rw [degsL_len]; omega), List.getElem?_eq_none (by rw [List.length_replicate]; omega)]
theorem inf_int : (Try.prog.info? 3).map (fun i => (i.zero, i.size, i.bytes)) = some (some (.int .i64 0), 1, 8) := by kernel_rfl
set_option maxHeartbeats 4000000 in
set_option maxRecDepth 100000 in
theorem degreesG_ok (N n c : Nat) (p : Option Addr) (E : List Eg) (w : World) (h : Sl w 3 (.slice p n c) n (ecs E)) (hG : InG N E) (hN : N ≤ 200) (hn : n ≤ 600) :
    Calls Try.prog 29 #[.agg #[.int .i64 (N : Int), .slice p n c]] w fun e w' => ∃ p' c', e = .returned (.tuple #[.slice p' N c', .int .i64 0]) ∧ w'.ownsRow w.heap.size 3 1 (.slice p' N c') N (nts (degsL N E)) ∧ Below w.heap.size w w' := by
  have HCH := Lib.hid (fun (W : World) (h' : Below w.heap.size w W) => check_ok N n c p E W (h.later h') hG hN hn)
  obtain ⟨hln, hnc, hc63⟩ := h.elen
  have HL := Lib.hid h
  have HLN := Lib.hid hln
  have HG := Lib.hid hG
  clear h hG hln
  have B1 := bx_new w [.int .i64 (N : Int), .slice p n c] 25
  have hW := (Below.refl w.heap.size w).alloc (Nat.le_refl _) (.cells #[.int .i64 (N : Int), .slice p n c] 25)
  have hsz : (w.alloc (.cells #[.int .i64 (N : Int), .slice p n c] 25)).heap.size = w.heap.size + 1 := by simp
  have HB1 := Lib.hid B1
  have HSZ := Lib.hid hsz
  obtain ⟨ha0, ha1, _, _⟩ := B1.two
  clear B1 hsz
  go_enter Try.func29, Try.ntmps29
  go_wp2_with fail
  refine (HCH.out _ hW).mono ?_; rintro e w1 ⟨rfl, hb1⟩
  have hs1 := hb1.size
  have hw1 := hW.trans (hb1.mono (by rw [HSZ.out]; omega))
  have X1 := HB1.out.later hb1 (by rw [HSZ.out]; omega)
  rw [HSZ.out] at hs1
  clear hb1 hW ha0 ha1
  generalize (w.alloc (.cells #[.int .i64 (N : Int), .slice p n c] 25)) = W0 at *
  have HX1 := Lib.hid X1
  obtain ⟨ha0, ha1, _, _⟩ := X1.two
  clear X1
  obtain ⟨i0, hi, hz0, hz1, hz2⟩ := info_parts inf_int
  obtain ⟨wm, hrun, hom, hgm⟩ := run_make_full (P := Try.prog) w1 w1.heap.size 35 3 i0 (.int .i64 0) 1 rfl hi hz0 hz1 .i64 .i64 N (by rw [hz2]; omega) (by unfold maxLen; omega) (Nat.le_refl _)
  have hbm := (Below.refl w1.heap.size w1).grown hgm (Nat.le_refl _) (fun k hk => by cases hk)
  have hom2 : wm.ownsRow w1.heap.size 3 1 (.slice (some ⟨w1.heap.size, 0, none⟩) N N) N (nts (degsL N (E.take 0))) := by
    rw [List.take_zero, degsL_nil, nts_zero, ← toList_madeCells_one]
    rw [Nat.mul_one] at hom
    exact hom
  obtain ⟨hy0, hy1, _, _⟩ := (HX1.out.later hbm HX1.out.lt).two
  clear hom hgm hi hz0 hz1 hz2
  go_wp2_with fail
  clear ha0 ha1 hrun hy0 hy1
  go_loopg [19] n (fun gk v19 wr => ∃ k : Nat, v19 = .int .i64 (k : Int) ∧ k + gk = n ∧ wr.ownsRow w1.heap.size 3 1 (.slice (some ⟨w1.heap.size, 0, none⟩) N N) N (nts (degsL N (E.take k))) ∧ Below w1.heap.size w1 wr)
  case atStart => exact ⟨0, rfl, by omega, hom2, hbm⟩
  case round =>
    clear hom2 hbm
    obtain ⟨k, rfl, hgk, hown, hb⟩ := hrel
    have HGK := Lib.hid hgk
    have hk : k ≤ n := by omega
    clear hgk
    have hsz := hb.size
    by_cases hlt : k < n
    · have hkl : k < E.length := by have := HLN.out; omega
      have hin := HG.out _ (List.getElem_mem hkl)
      have hdg := degsL_take (N := N) hkl
      have hq : degL (E.take k) E[k].1 ≤ k := by
        unfold degL
        exact Nat.le_trans List.countP_le_length (List.length_take_le _ _)
      have hat := degsL_at (E.take k) hin.1
      obtain ⟨b, off, rfl, hc0, hc1, hc2⟩ := (HL.out.later (hw1.trans (hb.mono hw1.size))).edge hkl
      generalize E[k] = x at hin hdg hq hat hc0 hc1 hc2
      obtain ⟨x1, x2, x3⟩ := x
      dsimp only at hin hdg hq hat hc0 hc1 hc2
      obtain ⟨hx1, hx2, hx3⟩ := hin
      have HDG := Lib.hid hdg
      have hA := hown.alloc (.cells #[.int .i64 (x1 : Int), .int .i64 (x2 : Int), .int .i64 (x3 : Int)] 33)
      have hcell := hA.cellAt x1 (by omega)
      rw [show (nts (degsL N (E.take k)))[x1]? = some (.int .i64 ((degL (E.take k) x1 : Nat) : Int)) from by unfold nts; rw [List.getElem?_map, hat]; rfl] at hcell
      have hfr := hA.frozenAt x1
      generalize degL (E.take k) x1 = q at hdg hq hat hcell HDG
      have hst := hA.stored x1 (.int .i64 ((q + 1 : Nat) : Int))
      rw [← nts_set, ← HDG.out] at hst
      have hst1 := hst.1
      clear hdg hat hst hA
      have hk0 : (0 : Int) ≤ (k : Int) := by omega
      have hkn : (k : Int) < (n : Int) := by omega
      have hd1' : decide ((k : Int) < (n : Int)) = true := by simp; omega
      have hd2' : decide (k < n) = true := by simp; omega
      have hx10 : (0 : Int) ≤ (x1 : Int) := by omega
      have hx1n : (x1 : Int) < (N : Int) := by omega
      go_wp2_with fail
      go_roundg (n - (k + 1))
      case measure => have := HGK.out; omega
      case rel => exact ⟨k + 1, by go_num, by omega, by exact_mod_cast hst1, (hb.alloc hsz _).setCell (by simp) _⟩
    · obtain rfl : k = n := by omega
      have hd1' : decide ((k : Int) < (k : Int)) = false := by simp
      rw [List.take_of_length_le (by have := HLN.out; omega)] at hown
      go_wp2_with fail
      go_ret2
      exact ⟨_, N, rfl, own_mono hown (by omega), hw1.trans (hb.mono (by omega))⟩
end Go.Proofs.Ytnkkhfggfhbibaa
