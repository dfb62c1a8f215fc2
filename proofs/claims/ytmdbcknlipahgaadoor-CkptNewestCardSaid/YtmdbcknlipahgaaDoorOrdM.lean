/- The walk of merge.order. -/
import Derived.Test.YtmdbcknlipahgaaDoorOwn3
import Derived.Deep.LoopGhost
import Derived.Deep.QuietTactic
import Derived.BigQuiet
import Derived.Lib.Small
import Derived.Shelf.SlSortCmp.InsertionK
import Derived.Deep.RegionHeld3
namespace Go.Proofs.YtmdbcknlipahgaaDoor
open Go.RowKit
set_option maxHeartbeats 400000 in
set_option maxRecDepth 100000 in
theorem cmp_any (x y : Int) (w : World) : Calls Tryd.prog 101 #[.int .i64 x, .int .i64 y] w fun e w' => e = .returned (.int .i64 (Lib.compareInt x y)) ∧ w = w' := by
  have HN := Lib.hid (fun (z : Int) (W : World) => (show Calls Tryd.prog 123 #[.int .i64 z] W fun e w' => e = .returned (.bool false) ∧ W = w' by
    have hz : (z != z) = false := by simp
    go_enter Tryd.func123, Tryd.ntmps123
    go_wp2_with fail
    go_ret
    exact ⟨rfl, rfl⟩))
  unfold Lib.compareInt
  by_cases h1 : x < y
  · rw [if_pos h1]
    have hd : decide (x < y) = true := by simp [h1]
    go_enter Tryd.func101, Tryd.ntmps101
    go_wp2_with (go_at_call 123; refine (HN.out _ _).mono ?_; rintro e w' ⟨rfl, rfl⟩)
    go_ret
    exact ⟨rfl, rfl⟩
  · rw [if_neg h1]
    have hd : decide (x < y) = false := by simp; omega
    by_cases h2 : x > y
    · rw [if_pos h2]
      have hd2 : decide (y < x) = true := by simp; omega
      go_enter Tryd.func101, Tryd.ntmps101
      go_wp2_with (go_at_call 123; refine (HN.out _ _).mono ?_; rintro e w' ⟨rfl, rfl⟩)
      go_ret
      exact ⟨rfl, rfl⟩
    · rw [if_neg h2]
      have hd2 : decide (y < x) = false := by simp; omega
      go_enter Tryd.func101, Tryd.ntmps101
      go_wp2_with (go_at_call 123; refine (HN.out _ _).mono ?_; rintro e w' ⟨rfl, rfl⟩)
      go_ret
      exact ⟨rfl, rfl⟩
/-- the first number that is not 0 -/
def orL : List Int → Int
  | [] => 0
  | a :: l => if a = 0 then orL l else a
set_option maxHeartbeats 1000000 in
set_option maxRecDepth 100000 in
theorem or_any (g n : Nat) (l : List Int) (w : World) (hn : n = l.length) (hn2 : n ≤ 1000) (hc : ∀ i a, l[i]? = some a → w.cell? ⟨g, i, none⟩ = some (.int .i64 a)) : Calls Tryd.prog 100 #[.slice (some ⟨g, 0, none⟩) n n] w fun e w' => e = .returned (.int .i64 (orL l)) ∧ w = w' := by
  have HC := Lib.hid hc
  have HN := Lib.hid hn
  clear hc hn
  go_enter Tryd.func100, Tryd.ntmps100
  go_wp2_with fail
  go_loopg [8] n (fun gk v8 wr => ∃ k : Nat, v8 = .int .i64 (k : Int) ∧ k + gk = n ∧ Hid (orL l = orL (l.drop k)) ∧ w = wr)
  case atStart => exact ⟨0, rfl, by omega, Lib.hid rfl, rfl⟩
  case round =>
    obtain ⟨k, rfl, hgk, HO, rfl⟩ := hrel
    have HGK := Lib.hid hgk
    have hk : k ≤ n := by omega
    clear hgk
    by_cases hlt : k < n
    · have hkl : k < l.length := by have := HN.out; omega
      have hcell := HC.out k _ (List.getElem?_eq_getElem hkl)
      have hdr := List.drop_eq_getElem_cons hkl
      generalize l[k] = a at hcell hdr
      have hk0 : (0 : Int) ≤ (k : Int) := by omega
      have hkn : (k : Int) < (n : Int) := by omega
      have hd1 : decide ((k : Int) < (n : Int)) = true := by simp; omega
      have hd2 : decide (k < n) = true := by simp; omega
      have HD := Lib.hid hdr
      clear hdr
      by_cases ha : a = 0
      · subst ha
        go_wp2_with fail
        go_roundg (n - (k + 1))
        case measure => have := HGK.out; omega
        case rel => exact ⟨k + 1, by go_num, by omega, Lib.hid (by rw [HO.out, HD.out]; rfl), rfl⟩
      · have hb : (a != 0) = true := by simp; exact ha
        go_wp2_with fail
        go_ret
        exact ⟨by rw [HO.out, HD.out]; unfold orL; rw [if_neg ha]; rfl, rfl⟩
    · have hd1 : decide ((k : Int) < (n : Int)) = false := by simp; omega
      have hd2 : decide (k < n) = false := by simp; omega
      go_wp2_with fail
      go_ret
      exact ⟨by rw [HO.out, List.drop_eq_nil_of_le (by have := HN.out; omega)]; rfl, rfl⟩
end Go.Proofs.YtmdbcknlipahgaaDoor
namespace Go.Proofs.YtmdbcknlipahgaaDoor
open Go.RowKit Go.Sort Go.Proofs
theorem cell_drew {w : World} {a : Addr} {u : Value} (h : w.cell? a = some u) : w.drew.cell? a = some u := h
def encM (m : Nat × Nat) : List Value := [.int .i64 (m.1 : Int), .int .i64 (m.2 : Int)]
/-- comparing by two numbers, one behind the other -/
def cfM (x y : Nat × Nat) : Int := orL [Lib.compareInt x.1 y.1, Lib.compareInt x.2 y.2]
set_option maxHeartbeats 2000000 in
set_option maxRecDepth 100000 in
theorem ordM_any (x y : Nat × Nat) (W : World) : Calls Tryd.prog 80 #[.agg (encM x).toArray, .agg (encM y).toArray] W fun e w' => e = .returned (.int .i64 (cfM x y)) ∧ ∃ q os', w' = grow (W.drewN q) os' := by
  unfold encM cfM
  have HC1 := Lib.hid (fun w => cmp_any x.1 y.1 w)
  have HC2 := Lib.hid (fun w => cmp_any x.2 y.2 w)
  generalize Lib.compareInt x.1 y.1 = c1 at *
  generalize Lib.compareInt x.2 y.2 = c2 at *
  have HO := Lib.hid (fun (g : Nat) (w : World) (h0 : w.cell? ⟨g, 0, none⟩ = some (.int .i64 c1)) (h1 : w.cell? ⟨g, 1, none⟩ = some (.int .i64 c2)) => or_any g 2 [c1, c2] w rfl (by omega) (by
    intro i a h
    match i, h with
    | 0, h => cases h; exact h0
    | 1, h => cases h; exact h1))
  generalize orL [c1, c2] = r at *
  obtain ⟨x1, x2⟩ := x
  obtain ⟨y1, y2⟩ := y
  dsimp only at HC1 HC2 ⊢
  go_enter Tryd.func80, Tryd.ntmps80
  have B1 := (bx_new W [.int .i64 (x1 : Int), .int .i64 (x2 : Int)] 103).alloc (.cells #[.int .i64 (y1 : Int), .int .i64 (y2 : Int)] 103)
  have B2 := bx_new (W.alloc (.cells #[.int .i64 (x1 : Int), .int .i64 (x2 : Int)] 103)) [.int .i64 (y1 : Int), .int .i64 (y2 : Int)] 103
  obtain ⟨hA0, hA1, _, _⟩ := B1.two
  obtain ⟨hB0, hB1, _, _⟩ := B2.two
  have e1 : (W.alloc (.cells #[.int .i64 (x1 : Int), .int .i64 (x2 : Int)] 103)).heap.size = W.heap.size + 1 := by simp
  rw [e1] at hB0 hB1
  have B3 := bx_new ((W.alloc (.cells #[.int .i64 (x1 : Int), .int .i64 (x2 : Int)] 103)).alloc (.cells #[.int .i64 (y1 : Int), .int .i64 (y2 : Int)] 103)) [.int .i64 c1, .int .i64 c2] 3
  obtain ⟨hC0, hC1, _, _⟩ := B3.two
  have e2 : ((W.alloc (.cells #[.int .i64 (x1 : Int), .int .i64 (x2 : Int)] 103)).alloc (.cells #[.int .i64 (y1 : Int), .int .i64 (y2 : Int)] 103)).heap.size = W.heap.size + 1 + 1 := by simp
  rw [e2] at hC0 hC1
  clear B1 B2 B3 e1 e2
  have HC0 := Lib.hid (cell_drew hC0)
  have HC1' := Lib.hid (cell_drew hC1)
  go_wp2_with fail
  go_region_held3 (fun w' => w'.cell? ⟨W.heap.size, 0, none⟩ = some (Value.int .i64 (x1 : Int)) ∧ w'.cell? ⟨W.heap.size, 1, none⟩ = some (Value.int .i64 (x2 : Int)) ∧ w'.cell? ⟨W.heap.size + 1, 0, none⟩ = some (Value.int .i64 (y1 : Int)) ∧ w'.cell? ⟨W.heap.size + 1, 1, none⟩ = some (Value.int .i64 (y2 : Int)))
    (go_keep)
    (first
      | (go_at_call_of 101 (Value.int .i64 (x1 : Int)); refine (HC1.out _).mono ?_; rintro e w' ⟨rfl, rfl⟩)
      | (go_at_call_of 101 (Value.int .i64 (x2 : Int)); refine (HC2.out _).mono ?_; rintro e w' ⟨rfl, rfl⟩)
      | (go_at_call 100; refine (HO.out _ _ HC0.out HC1'.out).mono ?_; rintro e w' ⟨rfl, rfl⟩))
  all_goals
    go_wp2_with fail
    go_ret
    exact ⟨rfl, 1, #[_, _, _], by rw [alloc_eq_grow, alloc_eq_grow, alloc_eq_grow, grow_grow, grow_grow]; rfl⟩
theorem ordM_lays (blk off size : Nat) (w : World) : CmpLays Tryd.prog 80 #[] encM 2 cfM blk off size w := fun _ _ _ _ x y => ordM_any x y _
end Go.Proofs.YtmdbcknlipahgaaDoor
