/- The walk of paths.Reach. -/
import Derived.Test.YtcaolnpkpialdaaSearch
import Derived.Test.YtcaolnpkpialdaaHopsP
import Derived.Test.YtcaolnpkpialdaaCheck
namespace Go.Proofs.Ytcaolnpkpialdaa
open Go.RowKit
theorem inf_bool : (Try.prog.info? 4).map (fun i => (i.zero, i.size, i.bytes)) = some (some (.bool false), 1, 1) := by kernel_rfl
set_option maxHeartbeats 4000000 in
set_option maxRecDepth 100000 in
theorem reachP_ok (N n c v : Nat) (p : Option Addr) (E : List Eg) (w : World) (h : Sl w 3 (.slice p n c) n (ecs E)) (hG : InG N E) (hN : N ≤ 200) (hn : n ≤ 600) (hv : v < N) :
    Calls Try.prog 17 #[.agg #[.int .i64 (N : Int), .slice p n c], .int .i64 (v : Int)] w fun e w' => ∃ g, e = .returned (.tuple #[.slice (some ⟨g, 0, none⟩) N N, .int .i64 0]) ∧ w'.ownsRow w.heap.size 4 1 (.slice (some ⟨g, 0, none⟩) N N) N (bls (reachL N E v)) ∧ Below w.heap.size w w' := by
  have hEn := h.elen.1
  have HCH := Lib.hid (fun (W : World) (h' : Below w.heap.size w W) => check_ok N n c p E W (h.later h') hG hN hn)
  have HHP := Lib.hid (fun (W : World) (h' : Below w.heap.size w W) => hopsP_ok N n c p E W (h.later h') hG hN hn)
  have hE6 : E.length ≤ 600 := by omega
  clear h hEn
  have HG := Lib.hid hG
  clear hG
  obtain ⟨b0, B0, hz0⟩ := boxed0 w [.int .i64 (N : Int), .slice p n c] 25
  obtain ⟨ha0, ha1, _, _⟩ := B0.two
  have hd1 : decide ((v : Int) < 0) = false := by simp <;> omega
  have hd2 : decide ((N : Int) ≤ (v : Int)) = false := by simp; omega
  have hd3 : decide (N ≤ v) = false := by simp; omega
  go_enter Try.func17, Try.ntmps17
  go_wp2_with fail
  refine (HCH.out _ b0).mono ?_; rintro e w1 ⟨rfl, hb1⟩
  clear ha0 ha1
  have X1 := B0.next hb1
  have hw1 := b0.trans (hb1.mono (by omega))
  have hz1 := Nat.le_trans hz0 hb1.size
  clear hb1 b0 B0 hz0
  generalize w.alloc (.cells #[.int .i64 (N : Int), .slice p n c] 25) = W0 at *
  obtain ⟨i0, hi, hj0, hj1, hj2⟩ := info_parts inf_bool
  obtain ⟨wm, hrun, hom, hgm⟩ := run_make_full (P := Try.prog) w1 w1.heap.size 32 4 i0 (.bool false) 1 rfl hi hj0 hj1 .i64 .i64 N (by rw [hj2]; omega) (by unfold maxLen; omega) (Nat.le_refl _)
  have hbm := (Below.refl w1.heap.size w1).grown hgm (Nat.le_refl _) (fun k hk => by cases hk)
  have hom2 : wm.ownsRow w1.heap.size 4 1 (.slice (some ⟨w1.heap.size, 0, none⟩) N N) N (bls (List.replicate N false)) := by
    rw [bls_rep, ← toList_madeCells_one]
    rw [Nat.mul_one] at hom
    exact hom
  have X2 := X1.next hbm
  obtain ⟨ha0, ha1, _, _⟩ := X1.two
  obtain ⟨hy0, hy1, _, _⟩ := X2.two
  have hgs := (hom2.lt _ rfl).2
  clear hom hgm hi hj0 hj1 hj2 X1 X2
  go_wp2_with fail
  clear ha0 ha1 hrun
  have hwm := hw1.trans (hbm.mono hw1.size)
  refine (HHP.out wm hwm).mono ?_; rintro e w2 ⟨g, rfl, hM, hg1, hg2, hb2⟩
  clear hy0 hy1
  have hse := hM.serve (s := w1.heap.size) (fun _ _ _ => rfl) (Nat.le_refl _) (.inl hgs)
  have ho2 := own_later hom2 hb2
  have hw2 := hwm.trans (hb2.mono hwm.size)
  clear hom2 hM
  go_wp2_with fail
  refine (search_ok N v g w1.heap.size w1.heap.size E w2 hse ho2 HG.out hN hE6 hv).mono ?_; rintro e w3 ⟨rfl, ho3, hg3⟩
  have hw3 := hw2.grown hg3 hw2.size (fun k hk => by cases hk; exact hw1.size)
  clear ho2 hse
  go_wp2_with fail
  go_ret2
  exact ⟨_, rfl, own_mono ho3 hw1.size, hw3⟩
end Go.Proofs.Ytcaolnpkpialdaa
