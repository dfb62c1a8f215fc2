/- The walk of slices.IsSortedFunc at mail, that is in order. -/
import Derived.Test.YtcaolnpkpialdaaMailU
import Derived.Test.YtcaolnpkpialdaaBoxed
import Derived.Deep.LoopGhost
import Derived.Deep.RegionHeld3
namespace Go.Proofs.Ytcaolnpkpialdaa
open Go.RowKit Go.Sort Go.Proofs
theorem below_growN (W : World) (q : Nat) (os : Array Obj) : Below W.heap.size W (grow (W.drewN q) os) :=
  ⟨rfl, rfl, rfl, by show W.heap.size ≤ (W.heap ++ os).size; simp, fun k hk => by show (W.heap ++ os)[k]? = _; rw [Array.getElem?_append_left hk]⟩
theorem ordM_b (x1 x2 y1 y2 : Nat) (W : World) : Calls Try.prog 44 #[.agg #[.int .i64 (x1 : Int), .int .i64 (x2 : Int)], .agg #[.int .i64 (y1 : Int), .int .i64 (y2 : Int)]] W fun e w' => e = .returned (.int .i64 (cfM (x1, x2) (y1, y2))) ∧ Below W.heap.size W w' := by
  refine (ordM_any (x1, x2) (y1, y2) W).mono ?_
  rintro e w' ⟨rfl, q, os, rfl⟩
  exact ⟨rfl, below_growN W q os⟩
theorem cfM_nn {x y : Nat × Nat} (h : leO cfM y x = true) : 0 ≤ cfM x y := by
  unfold leO ltOf at h
  simp at h
  exact h
set_option maxHeartbeats 4000000 in
set_option maxRecDepth 100000 in
theorem isSortM_ok (n c : Nat) (p : Option Addr) (l : List (Nat × Nat)) (w : World) (h : Sl w 2 (.slice p n c) n (mcs l)) (hs : l.Pairwise fun a b => leO cfM a b = true) :
    Calls Try.prog 43 #[.slice p n c, .func (.func 44) #[] #[]] w fun e w' => e = .returned (.bool true) ∧ Below w.heap.size w w' := by
  obtain ⟨hln, hnc, hc63⟩ := h.mlen
  have HLN := Lib.hid hln
  have HL := Lib.hid h
  have HS := Lib.hid hs
  clear h hs hln
  have hw0 : IntKind.i64.wrap ((n : Int) - 1) = (n : Int) - 1 := IntWalk.i64_in _ (by omega)
  go_enter Try.func43, Try.ntmps43
  go_wp2_with fail
  clear hw0
  go_loopg [5] n (fun gk v5 wr => ∃ i : Int, v5 = .int .i64 i ∧ (i = (gk : Int) - 1) ∧ gk ≤ n ∧ Below w.heap.size w wr)
  case atStart => exact ⟨_, rfl, rfl, Nat.le_refl _, Below.refl _ _⟩
  case round =>
    obtain ⟨i, rfl, hi, hgn, hb⟩ := hrel
    by_cases hlt : 0 < i
    · obtain ⟨j, rfl⟩ : ∃ j : Nat, i = (j : Int) + 1 := ⟨i.toNat - 1, by omega⟩
      have hgj : gk = j + 2 := by omega
      subst hgj
      have hjn : j + 2 ≤ n := hgn
      have hj1 : j + 1 < l.length := by have := HLN.out; omega
      have hj0 : j < l.length := by omega
      obtain ⟨b2, off2, rfl, hs0, hs1⟩ := (HL.out.later hb).mail hj1
      obtain ⟨b3, off3, he, ht0, ht1⟩ := (HL.out.later hb).mail hj0
      cases he
      have hle := cfM_nn (List.pairwise_iff_getElem.1 HS.out j (j + 1) hj0 hj1 (by omega))
      generalize l[j + 1] = x at hle hs0 hs1
      generalize l[j] = y at hle ht0 ht1
      obtain ⟨x1, x2⟩ := x
      obtain ⟨y1, y2⟩ := y
      dsimp only at hle hs0 hs1 ht0 ht1
      have HO := Lib.hid (fun W => ordM_b x1 x2 y1 y2 W)
      generalize cfM (x1, x2) (y1, y2) = cm at *
      have hbb : b2 < wr.heap.size := World.block_lt_of_cell? wr _ hs0
      have HGK := Lib.hid hgn
      have hd1 : decide ((0 : Int) < (j : Int) + 1) = true := decide_eq_true (by omega)
      have hw1 : IntKind.i64.wrap ((j : Int) + 1 - 1) = (j : Int) := by rw [Int.add_sub_cancel]; exact IntWalk.i64_in _ (by omega)
      have hw2 : IntKind.i64.wrap (j : Int) = (j : Int) := IntWalk.i64_in _ (by omega)
      have hk0 : (0 : Int) ≤ (j : Int) := by omega
      have hq0 : (0 : Int) ≤ (j : Int) + 1 := by omega
      have hqn : (j : Int) + 1 < (n : Int) := by omega
      have hqt : ((j : Int) + 1).toNat = j + 1 := by omega
      have hkn : (j : Int) < (n : Int) := by omega
      have hd2 : decide (cm < 0) = false := by simp; omega
      clear hi hgn hlt hle hj1 hj0
      go_wp2_with fail
      go_region_held3 (fun w' => w'.cell? ⟨b2, off2 + (j + 1) * 2, none⟩ = some (Value.int .i64 (x1 : Int)) ∧ w'.cell? ⟨b2, off2 + (j + 1) * 2 + 1, none⟩ = some (Value.int .i64 (x2 : Int)) ∧ w'.cell? ⟨b2, off2 + j * 2, none⟩ = some (Value.int .i64 (y1 : Int)) ∧ w'.cell? ⟨b2, off2 + j * 2 + 1, none⟩ = some (Value.int .i64 (y2 : Int)))
        (first | (exact ⟨hy0, hy1, hy2, hy3⟩) | go_keep)
        ((go_at_call 44; refine (HO.out _).mono ?_; rintro e w3 ⟨rfl, hb3⟩; have hcz := ((Below.refl _ wr).drew).trans hb3; have hy0 := (hcz.cell (p := ⟨b2, off2 + (j + 1) * 2, none⟩) hbb).trans hs0; have hy1 := (hcz.cell (p := ⟨b2, off2 + (j + 1) * 2 + 1, none⟩) hbb).trans hs1; have hy2 := (hcz.cell (p := ⟨b2, off2 + j * 2, none⟩) hbb).trans ht0; have hy3 := (hcz.cell (p := ⟨b2, off2 + j * 2 + 1, none⟩) hbb).trans ht1))
      have hb5 := hb.trans (hcz.mono hb.size)
      go_wp2_with fail
      go_roundg (j + 1)
      case measure => omega
      case rel => exact ⟨(j : Int), rfl, by omega, by omega, hb5⟩
    · have hd1 : decide ((0 : Int) < i) = false := by simp; omega
      go_wp2_with fail
      go_ret
      exact ⟨rfl, hb⟩
end Go.Proofs.Ytcaolnpkpialdaa
