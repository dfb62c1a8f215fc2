/- The walks of link.Open and link.Hear. -/
import Derived.Test.YtmadpjmlcooinaaLinkA
import Derived.Laws.ResultCell
namespace Go.Proofs.Ytmadpjmlcooinaa
open Go.RowKit
/-- a receiver, an ack, a packet as values -/
def rcvV (ep wa : Nat) : Value := .agg #[.int .i64 (ep : Int), .int .i64 (wa : Int)]
def ackV (ep no : Nat) : Value := .agg #[.int .i64 (ep : Int), .int .i64 (no : Int)]
def mlV (m : Nat × Nat) : Value := .agg #[.int .i64 (m.1 : Int), .int .i64 (m.2 : Int)]
def pktV (ep no : Nat) (m : Nat × Nat) : Value := .agg #[.int .i64 (ep : Int), .int .i64 (no : Int), .int .i64 (m.1 : Int), .int .i64 (m.2 : Int)]
theorem results_cct {fn : Func} {p q u : Tmp} {ty tz : TypeId} (h : fn.results = #[.cell p ty, .cell q tz, .tmp u]) (tmps : Array Value) (P : Program) (w : World) :
    (results fn tmps).run P w =
      ((asAddr (tmps.getD p undef)).run P w).andThen fun a w₁ => ((loadVar ty a).run P w₁).andThen fun v w₂ =>
      ((asAddr (tmps.getD q undef)).run P w₂).andThen fun b w₃ => ((loadVar tz b).run P w₃).andThen fun z w₄ => .ok (.tuple #[v, z, tmps.getD u undef]) w₄ := by
  simp only [results, h]
  simp [Sem.run_bind, Result.andThen]
theorem results_ctct {fn : Func} {p q u t : Tmp} {ty tz : TypeId} (h : fn.results = #[.cell p ty, .tmp t, .cell q tz, .tmp u]) (tmps : Array Value) (P : Program) (w : World) :
    (results fn tmps).run P w =
      ((asAddr (tmps.getD p undef)).run P w).andThen fun a w₁ => ((loadVar ty a).run P w₁).andThen fun v w₂ =>
      ((asAddr (tmps.getD q undef)).run P w₂).andThen fun b w₃ => ((loadVar tz b).run P w₃).andThen fun z w₄ => .ok (.tuple #[v, tmps.getD t undef, z, tmps.getD u undef]) w₄ := by
  simp only [results, h]
  simp [Sem.run_bind, Result.andThen]
set_option maxHeartbeats 1000000 in
set_option maxRecDepth 100000 in
theorem open_ok (ep : Nat) (w : World) (he : ep ≤ 1099511627776) :
    Calls Try.prog 18 #[.int .i64 (ep : Int)] w fun e w' => e = .returned (.tuple #[sndV ep 0 (.slice none 0 0), rcvV ep 0, .int .i64 0]) ∧ Below w.heap.size w w' := by
  have HE := Lib.hid (fun W => ends_ok ep 0 W he (by omega))
  rw [show ((0 : Nat) : Int) = 0 from rfl] at HE
  go_enter Try.func18, Try.ntmps18
  go_wp2_with (go_at_call 35; refine (HE.out _).mono ?_; rintro e w' ⟨rfl, rfl⟩)
  refine bodyPost_ret (v := .tuple #[sndV ep 0 (.slice none 0 0), rcvV ep 0, .int .i64 0]) ?_ rfl ⟨rfl, ?_⟩
  · rw [results_cct rfl]
    unfold sndV rcvV
    go_simp
  · exact ((Below.refl _ _).alloc (Nat.le_refl _) _).alloc (by simp) _
set_option maxHeartbeats 1000000 in
set_option maxRecDepth 100000 in
theorem hear_next (ep wa : Nat) (m : Nat × Nat) (w : World) (he : ep ≤ 1099511627776) (hw : wa ≤ 1099511627776) :
    Calls Try.prog 21 #[rcvV ep wa, pktV ep wa m] w fun e w' => ∃ p c, e = .returned (.tuple #[rcvV ep (wa + 1), .slice p 1 c, ackV ep (wa + 1), .int .i64 0]) ∧ w'.ownsRow w.heap.size 41 2 (.slice p 1 c) 1 [.int .i64 (m.1 : Int), .int .i64 (m.2 : Int)] ∧ Below w.heap.size w w' := by
  have HE := Lib.hid (fun W => ends_ok ep wa W he hw)
  unfold rcvV pktV
  go_enter Try.func21, Try.ntmps21
  go_wp2_with (first | (go_at_call 35; refine (HE.out _).mono ?_; rintro e w' ⟨rfl, rfl⟩) | (at_builtin; refine wp_app1 (w0 := w) rfl _ _ _ rfl w.heap.size 41 rfl inf_mail' rfl (by decide) rfl (World.ownsRow_nil _ _ _ _) (us := [.int .i64 (m.1 : Int), .int .i64 (m.2 : Int)]) (by show Value.slice _ 1 1 = _; simp) rfl (by simp [Value.oneCell']) (by unfold maxLen; omega) (by omega) ((((((Below.refl _ w).alloc (Nat.le_refl _) _).alloc (by simp) _).alloc (by simp; omega) _).alloc (by simp; omega) _)) (by simp; omega) ?_; intro p1 c1 w1 hown1 hb1 hsz1 hg ho; obtain ⟨hb1', _, hb3', hb4'⟩ := grown_four (show World.grownBy _ w1 none from hg); obtain ⟨hR0, hR1, hF0, hF1⟩ := box2 hb1'; obtain ⟨hS0, hS1, hG0, hG1⟩ := box2 hb3'; obtain ⟨hT0, hT1, hH0, hH1⟩ := box2 hb4'; have hown := own_up' (B := w.heap.size + 4) hown1 ho rfl (by simp <;> omega); clear hb1' hb3' hb4' hg ho hown1))
  go_region
  go_wp2_with fail
  rw [Nat.zero_add, List.nil_append] at hown
  refine bodyPost_ret (v := .tuple #[rcvV ep (wa + 1), .slice p1 1 c1, ackV ep (wa + 1), .int .i64 0]) ?_ rfl ⟨p1, c1, rfl, ?_, ?_⟩
  · rw [results_ctct rfl]
    unfold rcvV ackV
    rw [show ((wa + 1 : Nat) : Int) = (wa : Int) + 1 from by push_cast; rfl]
    go_simp
  · refine own_mono (own_drew ?_) (Nat.le_add_right _ 4)
    iterate 5 (refine own_setCell ?_ (by simp <;> omega) _)
    exact hown
  · refine Below.drew ?_
    iterate 5 (refine Below.setCell ?_ (by simp <;> omega) _)
    exact hb1
set_option maxHeartbeats 1000000 in
set_option maxRecDepth 100000 in
theorem hear_other (ep wa no : Nat) (m : Nat × Nat) (w : World) (he : ep ≤ 1099511627776) (hw : wa ≤ 1099511627776) (hno : no ≠ wa) :
    Calls Try.prog 21 #[rcvV ep wa, pktV ep no m] w fun e w' => e = .returned (.tuple #[rcvV ep wa, .slice none 0 0, ackV ep wa, .int .i64 0]) ∧ Below w.heap.size w w' := by
  have HE := Lib.hid (fun W => ends_ok ep wa W he hw)
  have hd : ((no : Int) == (wa : Int)) = false := by simp; omega
  clear hno
  unfold rcvV pktV
  go_enter Try.func21, Try.ntmps21
  go_wp2_with (go_at_call 35; refine (HE.out _).mono ?_; rintro e w' ⟨rfl, rfl⟩)
  go_region
  go_wp2_with fail
  refine bodyPost_ret (v := .tuple #[rcvV ep wa, .slice none 0 0, ackV ep wa, .int .i64 0]) ?_ rfl ⟨rfl, ?_⟩
  · rw [results_ctct rfl]
    unfold rcvV ackV
    go_simp
  · exact Below.drew (below_four w _ _ _ _)
set_option maxHeartbeats 1000000 in
set_option maxRecDepth 100000 in
theorem hear_epoch (ep wa eq no : Nat) (m : Nat × Nat) (w : World) (he : ep ≤ 1099511627776) (hw : wa ≤ 1099511627776) (hne : eq ≠ ep) :
    Calls Try.prog 21 #[rcvV ep wa, pktV eq no m] w fun e w' => e = .returned (.tuple #[rcvV 0 0, .slice none 0 0, ackV 0 0, .int .i64 11]) ∧ Below w.heap.size w w' := by
  have HE := Lib.hid (fun W => ends_ok ep wa W he hw)
  have hd : ((eq : Int) != (ep : Int)) = true := by simp; omega
  clear hne
  unfold rcvV pktV
  go_enter Try.func21, Try.ntmps21
  go_wp2_with (go_at_call 35; refine (HE.out _).mono ?_; rintro e w' ⟨rfl, rfl⟩)
  refine bodyPost_ret (v := .tuple #[rcvV 0 0, .slice none 0 0, ackV 0 0, .int .i64 11]) ?_ rfl ⟨rfl, ?_⟩
  · rw [results_ctct rfl]
    unfold rcvV ackV
    go_simp
  · exact below_four w _ _ _ _
end Go.Proofs.Ytmadpjmlcooinaa
