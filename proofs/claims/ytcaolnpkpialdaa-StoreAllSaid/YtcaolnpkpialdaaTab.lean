/- The walk of frame.table: it answers the table of what eight bits do. -/
import Derived.Test.YtcaolnpkpialdaaOwn
import Derived.Test.YtcaolnpkpialdaaPSum
namespace Go.Proofs.Ytcaolnpkpialdaa
open Go.RowKit
theorem zeroTab (w : World) : (zeroValue 185).run Try.prog w = .ok (.agg tabZ) w := by kernel_rfl
theorem sizeTab : (Try.prog.info? 185).map (·.size) = some 256 := by kernel_rfl
set_option maxHeartbeats 1000000 in
set_option maxRecDepth 100000 in
theorem table_any (w : World) :
    Calls Try.prog 90 #[] w fun e w' => e = .returned (.agg (tabA 256)) ∧ Below w.heap.size w w' := by
  have hz := zeroTab
  go_enter Try.func90, Try.ntmps90
  go_wp2_with fail
  go_loopw [4] (fun i wr => ∃ k : Nat, i = .int .i64 (k : Int) ∧ k ≤ 256 ∧ wr.heap[w.heap.size]? = some (.cells tabZ 185 (0, 0)) ∧ wr.heap[w.heap.size + 1]? = some (.cells (tabA k) 185 (0, 0)) ∧ Below w.heap.size w wr ∧ w.heap.size + 2 ≤ wr.heap.size)
    (fun i _ => 300 - (intOf i).toNat)
  case atStart =>
    refine ⟨0, rfl, by omega, ?_, ?_, ?_, ?_⟩
    · exact heap_alloc2_old w _ _
    · rw [← tabZ_eq]; exact heap_alloc2_new w _ _
    · exact ((Below.refl _ _).alloc (Nat.le_refl _) _).alloc (by simp) _
    · simp
  case round =>
    obtain ⟨k, rfl, hk, h0, h1, hb, hsz⟩ := hrel
    have H0 := Lib.hid h0
    have H1 := Lib.hid h1
    clear h0 h1
    by_cases hlt : k < 256
    · go_wp2_with fail
      go_loop [3, 9] (fun c j => ∃ i : Nat, j = .int .i64 (i : Int) ∧ i ≤ 8 ∧ c = .int .u32 (crcK i k : Int)) (fun _ j => 9 - (intOf j).toNat)
      case atStart => exact ⟨0, rfl, by omega, rfl⟩
      case round =>
        obtain ⟨i, rfl, hi, rfl⟩ := hrel
        have hcl := crcK_lt i (c := k) (by omega)
        have hs := Lib.hid (crcK_succ i k)
        generalize hc : crcK i k = c at *
        by_cases hi8 : i < 8
        · have ha := and1 c hcl
          have hx := Lib.hid (xor_poly c hcl)
          by_cases hodd : c % 2 = 1
          · have ht : (bits .and .u32 (c : Int) 1 == 1) = true := by rw [ha, hodd]; rfl
            have e : crc1 c = (c / 2 ^^^ 3988292384) := by unfold crc1; rw [if_pos hodd]
            have HE := Lib.hid e
            clear ha e hodd
            go_wp2
            go_round
            case rel => exact ⟨i + 1, by go_num, by omega, by rw [hs.out, HE.out, hx.out]⟩
            case measure => simp [intOf]; omega
          · have h0 : c % 2 = 0 := by omega
            have ht : (bits .and .u32 (c : Int) 1 == 1) = false := by rw [ha, h0]; rfl
            have e : crc1 c = c / 2 := by unfold crc1; rw [if_neg hodd]
            have HE := Lib.hid e
            clear ha e hodd h0
            go_wp2
            go_round
            case rel => exact ⟨i + 1, by go_num, by omega, by rw [hs.out, HE.out]; go_num⟩
            case measure => simp [intOf]; omega
        · obtain rfl : i = 8 := by omega
          have hcell : wr.cell? ⟨w.heap.size + 1, k, none⟩ = some (.int .u32 0) := by
            rw [cell_of_row wr _ k _ _ _ H1.out, tabA_get hlt, if_neg (by omega)]
          have hfr : wr.frozen? ⟨w.heap.size + 1, k, none⟩ = false := frozen_of_row wr _ k _ _ H1.out
          have HC := Lib.hid hc
          clear hc hs
          go_wp2
          go_roundw
          case rel =>
            refine ⟨k + 1, by go_num, by omega, ?_, ?_, ?_, ?_⟩
            · rw [heap_setCell_other _ _ _ _ (by simp)]; exact H0.out
            · rw [heap_setCell_same _ _ _ _ _ _ H1.out]
              have e : tabN k = c := HC.out
              rw [← tabA_step, e]
            · exact hb.setCell (by simp) _
            · simp [World.setCell]; omega
          case measure => simp [intOf]; omega
    · obtain rfl : k = 256 := by omega
      go_wp2_with (first
        | (refine wpList_load_row rfl _ _ rfl (w.heap.size + 1) rfl _ _ _ _ H1.out Try.underlying185 rfl (by rw [sizeTab, tabA_size]) ?_)
        | (refine wpList_store_row rfl _ _ _ rfl w.heap.size (tabA 256) rfl rfl _ _ H0.out (by rw [sizeTab, tabA_size]) (by rw [tabA_size]; rfl) (tabA_one _) ?_))
      refine bodyPost_ret (results_cell_row rfl _ _ w.heap.size _ _ _ _ rfl (setRow_heap _ _ _ (tabA 256) _ _ H0.out) Try.underlying185 rfl (by rw [sizeTab, tabA_size])) rfl ⟨rfl, below_setRow hb (Nat.le_refl _) _⟩
end Go.Proofs.Ytcaolnpkpialdaa
