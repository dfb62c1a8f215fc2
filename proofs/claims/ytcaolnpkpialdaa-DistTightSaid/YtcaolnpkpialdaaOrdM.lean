/- The walk of merge.order. -/
import Derived.Test.YtcaolnpkpialdaaCmp
import Derived.Shelf.SlSortCmp.InsertionK
import Derived.Deep.RegionHeld3
namespace Go.Proofs.Ytcaolnpkpialdaa
open Go.RowKit Go.Sort Go.Proofs
theorem cell_drew {w : World} {a : Addr} {u : Value} (h : w.cell? a = some u) : w.drew.cell? a = some u := h
def encM (m : Nat × Nat) : List Value := [.int .i64 (m.1 : Int), .int .i64 (m.2 : Int)]
/-- comparing by two numbers, one behind the other -/
def cfM (x y : Nat × Nat) : Int := orL [Lib.compareInt x.1 y.1, Lib.compareInt x.2 y.2]
set_option maxHeartbeats 2000000 in
set_option maxRecDepth 100000 in
theorem ordM_any (x y : Nat × Nat) (W : World) : Calls Try.prog 44 #[.agg (encM x).toArray, .agg (encM y).toArray] W fun e w' => e = .returned (.int .i64 (cfM x y)) ∧ ∃ q os', w' = grow (W.drewN q) os' := by
  unfold encM cfM
  have HC1 := Lib.hid (fun w => cmp_any x.1 y.1 w)
  have HC2 := Lib.hid (fun w => cmp_any x.2 y.2 w)
  generalize Lib.compareInt x.1 y.1 = c1 at *
  generalize Lib.compareInt x.2 y.2 = c2 at *
  have HO := Lib.hid (fun (g : Nat) (w : World) (h0 : w.cell? ⟨g, 0, none⟩ = some (.int .i64 c1)) (h1 : w.cell? ⟨g, 1, none⟩ = some (.int .i64 c2)) => or_any g 2 [c1, c2] w rfl (by omega) (by
    intro i a h
    match i, h with
    | 0, h => cases h; exact h0
    | 1, h => cases h; exact h1))
  generalize orL [c1, c2] = r at *
  obtain ⟨x1, x2⟩ := x
  obtain ⟨y1, y2⟩ := y
  dsimp only at HC1 HC2 ⊢
  go_enter Try.func44, Try.ntmps44
  have B1 := (bx_new W [.int .i64 (x1 : Int), .int .i64 (x2 : Int)] 109).alloc (.cells #[.int .i64 (y1 : Int), .int .i64 (y2 : Int)] 109)
  have B2 := bx_new (W.alloc (.cells #[.int .i64 (x1 : Int), .int .i64 (x2 : Int)] 109)) [.int .i64 (y1 : Int), .int .i64 (y2 : Int)] 109
  obtain ⟨hA0, hA1, _, _⟩ := B1.two
  obtain ⟨hB0, hB1, _, _⟩ := B2.two
  have e1 : (W.alloc (.cells #[.int .i64 (x1 : Int), .int .i64 (x2 : Int)] 109)).heap.size = W.heap.size + 1 := by simp
  rw [e1] at hB0 hB1
  have B3 := bx_new ((W.alloc (.cells #[.int .i64 (x1 : Int), .int .i64 (x2 : Int)] 109)).alloc (.cells #[.int .i64 (y1 : Int), .int .i64 (y2 : Int)] 109)) [.int .i64 c1, .int .i64 c2] 3
  obtain ⟨hC0, hC1, _, _⟩ := B3.two
  have e2 : ((W.alloc (.cells #[.int .i64 (x1 : Int), .int .i64 (x2 : Int)] 109)).alloc (.cells #[.int .i64 (y1 : Int), .int .i64 (y2 : Int)] 109)).heap.size = W.heap.size + 1 + 1 := by simp
  rw [e2] at hC0 hC1
  clear B1 B2 B3 e1 e2
  have HC0 := Lib.hid (cell_drew hC0)
  have HC1' := Lib.hid (cell_drew hC1)
  go_wp2_with fail
  go_region_held3 (fun w' => w'.cell? ⟨W.heap.size, 0, none⟩ = some (Value.int .i64 (x1 : Int)) ∧ w'.cell? ⟨W.heap.size, 1, none⟩ = some (Value.int .i64 (x2 : Int)) ∧ w'.cell? ⟨W.heap.size + 1, 0, none⟩ = some (Value.int .i64 (y1 : Int)) ∧ w'.cell? ⟨W.heap.size + 1, 1, none⟩ = some (Value.int .i64 (y2 : Int)))
    (go_keep)
    (first
      | (go_at_call_of 72 (Value.int .i64 (x1 : Int)); refine (HC1.out _).mono ?_; rintro e w' ⟨rfl, rfl⟩)
      | (go_at_call_of 72 (Value.int .i64 (x2 : Int)); refine (HC2.out _).mono ?_; rintro e w' ⟨rfl, rfl⟩)
      | (go_at_call 71; refine (HO.out _ _ HC0.out HC1'.out).mono ?_; rintro e w' ⟨rfl, rfl⟩))
  all_goals
    go_wp2_with fail
    go_ret
    exact ⟨rfl, 1, #[_, _, _], by rw [alloc_eq_grow, alloc_eq_grow, alloc_eq_grow, grow_grow, grow_grow]; rfl⟩
theorem ordM_lays (blk off size : Nat) (w : World) : CmpLays Try.prog 44 #[] encM 2 cfM blk off size w := fun _ _ _ _ x y => ordM_any x y _
end Go.Proofs.Ytcaolnpkpialdaa
