/- The walk of store.Open, at bytes that are no frame. -/
import Derived.Test.YtcaolnpkpialdaaUnwrap
import Derived.Test.YtcaolnpkpialdaaBoxed
import Derived.Test.YtcaolnpkpialdaaEncPut
import Derived.Deep.RegionHeld3
import Derived.Tactics
import Derived.Tactics2
import Derived.Defers
import Derived.Recover
namespace Go.Proofs.Ytcaolnpkpialdaa
open Go.RowKit
/-- no part, as a value -/
def zpart : Value := .agg #[.int .i64 0, .int .i64 0, .int .i64 0, .slice none 0 0, .slice none 0 0]
theorem results_cells2 {fn : Func} {p u : Tmp} {ty ty2 : TypeId} (h : fn.results = #[.cell p ty, .cell u ty2]) (tmps : Array Value) (P : Program) (w : World) :
    (results fn tmps).run P w = ((asAddr (tmps.getD p undef)).run P w).andThen fun a w₁ => ((loadVar ty a).run P w₁).andThen fun x w₂ => ((asAddr (tmps.getD u undef)).run P w₂).andThen fun b w₃ => ((loadVar ty2 b).run P w₃).andThen fun y w₄ => .ok (.tuple #[x, y]) w₄ := by
  simp only [results, h]
  simp [Sem.run_bind, Result.andThen]
set_option maxHeartbeats 4000000 in
set_option maxRecDepth 100000 in
theorem open_bad (p : Option Addr) (c n : Nat) (l : List Nat) (er : Nat) (w : World) (hl : IsB w (.slice p n c) l) (hu : (unwrapL l).2.2 = er) (he : er ≠ 0) :
    Calls Try.prog 29 #[.slice p n c] w fun e w' => e = .returned (.tuple #[zpart, .int .i64 (er : Int)]) ∧ Below w.heap.size w w' := by
  have HL := Lib.hid hl
  have hz := unwrapL_bad (l := l) (by rw [hu]; exact he)
  obtain ⟨b1, B1, z1⟩ := boxed0 w [.int .i64 0, .int .i64 0, .int .i64 0, .slice none 0 0, .slice none 0 0] 71
  have HX1 := Lib.hid B1
  obtain ⟨b2, B2, z2⟩ := boxed0 (w.alloc (.cells #[.int .i64 0, .int .i64 0, .int .i64 0, .slice none 0 0, .slice none 0 0] 71)) [.int .i64 0] 29
  have HX2 := Lib.hid (HX1.out.next b2)
  have HE2 := Lib.hid B2
  have HB2 := Lib.hid (b1.trans (b2.mono b1.size))
  clear b1 B1 b2 B2 hl
  go_enter Try.func29, Try.ntmps29
  go_wp2_with fail
  obtain ⟨g1, hg1⟩ : ∃ g1, g1 = w.heap.size := ⟨_, rfl⟩
  have HG1 := Lib.hid hg1
  have e1 : (w.alloc (.cells #[.int .i64 0, .int .i64 0, .int .i64 0, .slice none 0 0, .slice none 0 0] 71)).heap.size = w.heap.size + 1 := by simp
  rw [e1] at HE2
  clear e1 z1 z2
  rw [← hg1] at HX2 HE2 ⊢
  obtain ⟨g2, hg2⟩ : ∃ g2, g2 = g1 + 1 := ⟨_, rfl⟩
  have hne : ¬ g1 = g2 := by omega
  have hne' : ¬ g2 = g1 := by omega
  have HG2 := Lib.hid (show w.heap.size ≤ g2 by omega)
  rw [← hg2] at HE2 ⊢
  generalize ((w.alloc (.cells #[.int .i64 0, .int .i64 0, .int .i64 0, .slice none 0 0, .slice none 0 0] 71)).alloc (.cells #[.int .i64 0] 29)) = w1 at *
  clear hg1 hg2 HX1
  refine (unwrap_any _ _ _ l _ (HL.out.later HB2.out)).mono ?_; rintro e w2 ⟨p2, c2, rfl, ho2, hb2⟩
  have HX3 := Lib.hid (HX2.out.next hb2)
  have HE3 := Lib.hid (HE2.out.next hb2)
  have HB3 := Lib.hid (HB2.out.trans (hb2.mono HB2.out.size))
  rw [hz.1, hz.2, hu]
  have hd1 : ((er : Int) == 0) = false := by simp; omega
  have hd2 : ((er : Int) != 0) = true := by simp; omega
  have hd3 : (er == 0) = false := by simp; omega
  obtain ⟨hy0, hy1⟩ := HE3.out.one'
  obtain ⟨hx0, hx1, hx2, hx3, hx4⟩ := HX3.out.five
  obtain ⟨hf0, hf1, hf2, hf3, hf4⟩ := HX3.out.fiveF
  clear ho2 hb2 hu hz he
  go_upto_region 3 with fail
  have HE4 := Lib.hid (show Bx (w2.setCell ⟨g2, 0, none⟩ (.int .i64 (er : Int))) g2 [.int .i64 (er : Int)] from HE3.out.setc 0 _)
  have HX4 := Lib.hid (show Bx (w2.setCell ⟨g2, 0, none⟩ (.int .i64 (er : Int))) g1 [.int .i64 0, .int .i64 0, .int .i64 0, .slice none 0 0, .slice none 0 0] from bx_oth HX3.out hne _)
  have HB4 := Lib.hid (show Below w.heap.size w (w2.setCell ⟨g2, 0, none⟩ (.int .i64 (er : Int))) from HB3.out.setCell HG2.out _)
  clear hy0 hy1 hx0 hx1 hx2 hx3 hx4 hf0 hf1 hf2 hf3 hf4
  generalize (w2.setCell ⟨g2, 0, none⟩ (.int .i64 (er : Int))) = w4 at *
  obtain ⟨hy0, hy1⟩ := HE4.out.one'
  obtain ⟨hx0, hx1, hx2, hx3, hx4⟩ := HX4.out.five
  obtain ⟨hf0, hf1, hf2, hf3, hf4⟩ := HX4.out.fiveF
  go_region
  all_goals go_wp2_with fail
  all_goals
    refine bodyPost_ret (v := .tuple #[zpart, .int .i64 (er : Int)]) ?_ rfl ⟨rfl, ?_⟩
    · rw [results_cells2 rfl]
      go_simp
      rfl
    · have h1 : w.heap.size ≤ g1 := Nat.le_of_eq HG1.out.symm
      exact ((((((HB4.out.setCell h1 _).setCell h1 _).setCell h1 _).setCell h1 _).setCell h1 _).setCell HG2.out _).drew
set_option maxRecDepth 100000 in
theorem openIdle (p q : Addr) (w : World) :
    CallsD Try.prog 59 #[.pointer (some p), .pointer (some q)] .returning w fun e u' w' => e = .returned (.tuple #[]) ∧ u' = .returning ∧ w' = w := by
  refine callsD_of_wpS Try.func59 rfl fun c₀ cs hu => ?_
  apply wpS_seq
  apply wpS_region
  simp [wpOpsS, go_sem, recoverD, hu, Try.ntmps59, Exit.thenS]
  apply wpS_seq
  apply wpS_region
  simp [wpOpsS, go_sem, Exit.thenS]
  refine wpS_cond (t := false) (by simp [Act.eval]) ?_
  simp only [Bool.false_eq_true, if_false]
  refine wpS_of_wp (wp_skip ?_)
  cases c₀
  simp_all [bodyPostS, results, Try.results59]
end Go.Proofs.Ytcaolnpkpialdaa
