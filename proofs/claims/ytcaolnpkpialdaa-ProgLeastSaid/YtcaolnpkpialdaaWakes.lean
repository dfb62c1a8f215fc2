/- The walks of prog's wakes that are not fresh. -/
import Derived.Test.YtcaolnpkpialdaaLower
namespace Go.Proofs.Ytcaolnpkpialdaa
open Go.RowKit
set_option maxHeartbeats 2000000 in
set_option maxRecDepth 100000 in
theorem weak_wake (p : Option Addr) (c : Nat) (v src a b ph : Int) (l : List Int) (w : World) (hl : IsI w (.slice p l.length c) l) :
    Calls Try.prog 153 #[.agg #[], .int .i64 v, .int .i64 src, .agg #[.int .i64 a, .int .i64 b], .int .i64 ph, .bool false, .slice p l.length c] w fun e w' => e = .returned (.tuple #[.agg #[.int .i64 (lwA a l), .int .i64 b], .bool (lwS a false l)]) ∧ Below w.heap.size w w' := by
  have HLO := Lib.hid (fun (W : World) (hW : Below w.heap.size w W) => lower_ok p c a b l W (hl.later hW))
  clear hl
  obtain ⟨b0, -, z0⟩ := boxed0 w [] 166
  obtain ⟨b1, B1, z1⟩ := boxed0 (w.alloc (.cells #[] 166)) [.int .i64 a, .int .i64 b] 49
  obtain ⟨b2, B2, z2⟩ := boxed0 ((w.alloc (.cells #[] 166)).alloc (.cells #[.int .i64 a, .int .i64 b] 49)) [.int .i64 0, .int .i64 0] 49
  have hbw := b0.trans ((b1.trans (b2.mono (by omega))).mono (by omega))
  have X1 := B1.next b2
  have e0 : (w.alloc (.cells #[] 166)).heap.size = w.heap.size + 1 := by simp
  have e1 : ((w.alloc (.cells #[] 166)).alloc (.cells #[.int .i64 a, .int .i64 b] 49)).heap.size = w.heap.size + 2 := by simp
  rw [e1] at B2 z2
  rw [e0] at X1
  obtain ⟨hx0, hx1, hf0, hf1⟩ := X1.two
  have HX := Lib.hid X1
  have HB2 := Lib.hid B2
  have HBW := Lib.hid hbw
  clear b0 b1 b2 B1 e1 e0 z0 z1 z2 B2 X1 hbw
  go_enter Try.func153, Try.ntmps153
  go_upto_region 3 with fail
  generalize (((w.alloc (.cells #[] 166)).alloc (.cells #[.int .i64 a, .int .i64 b] 49)).alloc (.cells #[.int .i64 0, .int .i64 0] 49)) = W2 at *
  go_wp2_with (go_at_call 151; refine (HLO.out _ HBW.out).mono ?_; rintro e w3 ⟨rfl, hb3⟩; have Z3 := HB2.out.next hb3; have HW3 := Lib.hid (below_next HBW.out (Nat.le_refl _) hb3); obtain ⟨hg0, hg1, hgf0, hgf1⟩ := Z3.two; clear Z3 hb3)
  refine bodyPost_ret (v := .tuple #[.agg #[.int .i64 (lwA a l), .int .i64 b], .bool (lwS a false l)]) ?_ rfl ⟨rfl, ?_⟩
  · rw [results_cell_tmp rfl]
    go_simp
  · iterate 2 (refine Below.setCell ?_ (by simp <;> omega) _)
    exact HW3.out
set_option maxHeartbeats 2000000 in
set_option maxRecDepth 100000 in
theorem dist_wake (p : Option Addr) (c : Nat) (v src a b ph : Int) (l : List Int) (w : World) (hl : IsI w (.slice p l.length c) l) :
    Calls Try.prog 149 #[.agg #[], .int .i64 v, .int .i64 src, .agg #[.int .i64 a, .int .i64 b], .int .i64 ph, .bool false, .slice p l.length c] w fun e w' => e = .returned (.tuple #[.agg #[.int .i64 (lwA a l), .int .i64 b], .bool (lwS a false l)]) ∧ Below w.heap.size w w' := by
  have HLO := Lib.hid (fun (W : World) (hW : Below w.heap.size w W) => lower_ok p c a b l W (hl.later hW))
  clear hl
  obtain ⟨b0, -, z0⟩ := boxed0 w [] 165
  obtain ⟨b1, B1, z1⟩ := boxed0 (w.alloc (.cells #[] 165)) [.int .i64 a, .int .i64 b] 49
  obtain ⟨b2, B2, z2⟩ := boxed0 ((w.alloc (.cells #[] 165)).alloc (.cells #[.int .i64 a, .int .i64 b] 49)) [.int .i64 0, .int .i64 0] 49
  have hbw := b0.trans ((b1.trans (b2.mono (by omega))).mono (by omega))
  have X1 := B1.next b2
  have e0 : (w.alloc (.cells #[] 165)).heap.size = w.heap.size + 1 := by simp
  have e1 : ((w.alloc (.cells #[] 165)).alloc (.cells #[.int .i64 a, .int .i64 b] 49)).heap.size = w.heap.size + 2 := by simp
  rw [e1] at B2 z2
  rw [e0] at X1
  obtain ⟨hx0, hx1, hf0, hf1⟩ := X1.two
  have HX := Lib.hid X1
  have HB2 := Lib.hid B2
  have HBW := Lib.hid hbw
  clear b0 b1 b2 B1 e1 e0 z0 z1 z2 B2 X1 hbw
  go_enter Try.func149, Try.ntmps149
  go_upto_region 6 with fail
  generalize (((w.alloc (.cells #[] 165)).alloc (.cells #[.int .i64 a, .int .i64 b] 49)).alloc (.cells #[.int .i64 0, .int .i64 0] 49)) = W2 at *
  go_wp2_with (go_at_call 151; refine (HLO.out _ HBW.out).mono ?_; rintro e w3 ⟨rfl, hb3⟩; have Z3 := HB2.out.next hb3; have HW3 := Lib.hid (below_next HBW.out (Nat.le_refl _) hb3); obtain ⟨hg0, hg1, hgf0, hgf1⟩ := Z3.two; clear Z3 hb3)
  refine bodyPost_ret (v := .tuple #[.agg #[.int .i64 (lwA a l), .int .i64 b], .bool (lwS a false l)]) ?_ rfl ⟨rfl, ?_⟩
  · rw [results_cell_tmp rfl]
    go_simp
  · iterate 2 (refine Below.setCell ?_ (by simp <;> omega) _)
    exact HW3.out
end Go.Proofs.Ytcaolnpkpialdaa
