/- The walk of graph.order. -/
import Derived.Test.YtiaflhlfodcbjaaCmp
import Derived.Test.YtiaflhlfodcbjaaEdge
import Derived.Shelf.SlSortCmp.InsertionK
import Derived.Deep.RegionHeld3
namespace Go.Proofs.Ytiaflhlfodcbjaa
open Go.RowKit Go.Sort Go.Proofs
set_option maxHeartbeats 4000000 in
set_option maxRecDepth 100000 in
theorem ordE_any (x y : Eg) (W : World) : Calls Try.prog 67 #[.agg (encE x).toArray, .agg (encE y).toArray] W fun e w' => e = .returned (.int .i64 (cfE x y)) ∧ ∃ q os', w' = grow (W.drewN q) os' := by
  unfold encE cfE
  have HC1 := Lib.hid (fun w => cmp_any x.1 y.1 w)
  have HC2 := Lib.hid (fun w => cmp_any x.2.1 y.2.1 w)
  have HC3 := Lib.hid (fun w => cmp_any x.2.2 y.2.2 w)
  generalize Lib.compareInt x.1 y.1 = c1 at *
  generalize Lib.compareInt x.2.1 y.2.1 = c2 at *
  generalize Lib.compareInt x.2.2 y.2.2 = c3 at *
  have HO := Lib.hid (fun (g : Nat) (w : World) (h0 : w.cell? ⟨g, 0, none⟩ = some (.int .i64 c1)) (h1 : w.cell? ⟨g, 1, none⟩ = some (.int .i64 c2)) (h2 : w.cell? ⟨g, 2, none⟩ = some (.int .i64 c3)) => or_any g 3 [c1, c2, c3] w rfl (by omega) (by
    intro i a h
    match i, h with
    | 0, h => cases h; exact h0
    | 1, h => cases h; exact h1
    | 2, h => cases h; exact h2))
  generalize orL [c1, c2, c3] = r at *
  obtain ⟨x1, x2, x3⟩ := x
  obtain ⟨y1, y2, y3⟩ := y
  dsimp only at HC1 HC2 HC3 ⊢
  go_enter Try.func67, Try.ntmps67
  have B1 := (bx_new W [.int .i64 (x1 : Int), .int .i64 (x2 : Int), .int .i64 (x3 : Int)] 46).alloc (.cells #[.int .i64 (y1 : Int), .int .i64 (y2 : Int), .int .i64 (y3 : Int)] 46)
  have B2 := bx_new (W.alloc (.cells #[.int .i64 (x1 : Int), .int .i64 (x2 : Int), .int .i64 (x3 : Int)] 46)) [.int .i64 (y1 : Int), .int .i64 (y2 : Int), .int .i64 (y3 : Int)] 46
  obtain ⟨hA0, hA1, hA2, _, _, _⟩ := B1.three
  obtain ⟨hB0, hB1, hB2, _, _, _⟩ := B2.three
  have e1 : (W.alloc (.cells #[.int .i64 (x1 : Int), .int .i64 (x2 : Int), .int .i64 (x3 : Int)] 46)).heap.size = W.heap.size + 1 := by simp
  rw [e1] at hB0 hB1 hB2
  have B3 := bx_new ((W.alloc (.cells #[.int .i64 (x1 : Int), .int .i64 (x2 : Int), .int .i64 (x3 : Int)] 46)).alloc (.cells #[.int .i64 (y1 : Int), .int .i64 (y2 : Int), .int .i64 (y3 : Int)] 46)) [.int .i64 c1, .int .i64 c2, .int .i64 c3] 3
  obtain ⟨hC0, hC1, hC2, _, _, _⟩ := B3.three
  have e2 : ((W.alloc (.cells #[.int .i64 (x1 : Int), .int .i64 (x2 : Int), .int .i64 (x3 : Int)] 46)).alloc (.cells #[.int .i64 (y1 : Int), .int .i64 (y2 : Int), .int .i64 (y3 : Int)] 46)).heap.size = W.heap.size + 1 + 1 := by simp
  rw [e2] at hC0 hC1 hC2
  clear B1 B2 B3 e1 e2
  have HC0 := Lib.hid (cell_drew hC0)
  have HC1' := Lib.hid (cell_drew hC1)
  have HC2' := Lib.hid (cell_drew hC2)
  go_wp2_with fail
  go_region_held3 (fun w' => w'.cell? ⟨W.heap.size, 0, none⟩ = some (Value.int .i64 (x1 : Int)) ∧ w'.cell? ⟨W.heap.size, 1, none⟩ = some (Value.int .i64 (x2 : Int)) ∧ w'.cell? ⟨W.heap.size, 2, none⟩ = some (Value.int .i64 (x3 : Int)) ∧ w'.cell? ⟨W.heap.size + 1, 0, none⟩ = some (Value.int .i64 (y1 : Int)) ∧ w'.cell? ⟨W.heap.size + 1, 1, none⟩ = some (Value.int .i64 (y2 : Int)) ∧ w'.cell? ⟨W.heap.size + 1, 2, none⟩ = some (Value.int .i64 (y3 : Int)))
    (go_keep)
    (first
      | (go_at_call_of 76 (Value.int .i64 (x1 : Int)); refine (HC1.out _).mono ?_; rintro e w' ⟨rfl, rfl⟩)
      | (go_at_call_of 76 (Value.int .i64 (x2 : Int)); refine (HC2.out _).mono ?_; rintro e w' ⟨rfl, rfl⟩)
      | (go_at_call_of 76 (Value.int .i64 (x3 : Int)); refine (HC3.out _).mono ?_; rintro e w' ⟨rfl, rfl⟩)
      | (go_at_call 75; refine (HO.out _ _ HC0.out HC1'.out HC2'.out).mono ?_; rintro e w' ⟨rfl, rfl⟩))
  all_goals
    go_wp2_with fail
    go_ret
    exact ⟨rfl, 1, #[_, _, _], by rw [alloc_eq_grow, alloc_eq_grow, alloc_eq_grow, grow_grow, grow_grow]; rfl⟩
theorem ordE_lays (blk off size : Nat) (w : World) : CmpLays Try.prog 67 #[] encE 3 cfE blk off size w := fun _ _ _ _ x y => ordE_any x y _
end Go.Proofs.Ytiaflhlfodcbjaa
