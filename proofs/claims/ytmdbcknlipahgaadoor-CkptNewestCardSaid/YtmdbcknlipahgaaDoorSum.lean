/- The walk of frame.Sum: it answers what sumL says, for every slice of bytes. -/
import Derived.Test.YtmdbcknlipahgaaDoorOwn
import Derived.Test.YtmdbcknlipahgaaDoorPSum
import Derived.Test.YtmdbcknlipahgaaDoorGet
namespace Go.Proofs.YtmdbcknlipahgaaDoor
open Go.RowKit
theorem zeroTab (w : World) : (zeroValue 154).run Tryd.prog w = .ok (.agg tabZ) w := by kernel_rfl
theorem sizeTab : (Tryd.prog.info? 154).map (·.size) = some 256 := by kernel_rfl
set_option maxHeartbeats 1000000 in
set_option maxRecDepth 100000 in
theorem table_any (w : World) :
    Calls Tryd.prog 81 #[] w fun e w' => e = .returned (.agg (tabA 256)) ∧ Below w.heap.size w w' := by
  have hz := zeroTab
  go_enter Tryd.func81, Tryd.ntmps81
  go_wp2_with fail
  go_loopw [4] (fun i wr => ∃ k : Nat, i = .int .i64 (k : Int) ∧ k ≤ 256 ∧ wr.heap[w.heap.size]? = some (.cells tabZ 154 (0, 0)) ∧ wr.heap[w.heap.size + 1]? = some (.cells (tabA k) 154 (0, 0)) ∧ Below w.heap.size w wr ∧ w.heap.size + 2 ≤ wr.heap.size)
    (fun i _ => 300 - (intOf i).toNat)
  case atStart =>
    refine ⟨0, rfl, by omega, ?_, ?_, ?_, ?_⟩
    · exact heap_alloc2_old w _ _
    · rw [← tabZ_eq]; exact heap_alloc2_new w _ _
    · exact ((Below.refl _ _).alloc (Nat.le_refl _) _).alloc (by simp) _
    · simp
  case round =>
    obtain ⟨k, rfl, hk, h0, h1, hb, hsz⟩ := hrel
    have H0 := Lib.hid h0
    have H1 := Lib.hid h1
    clear h0 h1
    by_cases hlt : k < 256
    · go_wp2_with fail
      go_loop [3, 9] (fun c j => ∃ i : Nat, j = .int .i64 (i : Int) ∧ i ≤ 8 ∧ c = .int .u32 (crcK i k : Int)) (fun _ j => 9 - (intOf j).toNat)
      case atStart => exact ⟨0, rfl, by omega, rfl⟩
      case round =>
        obtain ⟨i, rfl, hi, rfl⟩ := hrel
        have hcl := crcK_lt i (c := k) (by omega)
        have hs := Lib.hid (crcK_succ i k)
        generalize hc : crcK i k = c at *
        by_cases hi8 : i < 8
        · have ha := and1 c hcl
          have hx := Lib.hid (xor_poly c hcl)
          by_cases hodd : c % 2 = 1
          · have ht : (bits .and .u32 (c : Int) 1 == 1) = true := by rw [ha, hodd]; rfl
            have e : crc1 c = (c / 2 ^^^ 3988292384) := by unfold crc1; rw [if_pos hodd]
            have HE := Lib.hid e
            clear ha e hodd
            go_wp2
            go_round
            case rel => exact ⟨i + 1, by go_num, by omega, by rw [hs.out, HE.out, hx.out]⟩
            case measure => simp [intOf]; omega
          · have h0 : c % 2 = 0 := by omega
            have ht : (bits .and .u32 (c : Int) 1 == 1) = false := by rw [ha, h0]; rfl
            have e : crc1 c = c / 2 := by unfold crc1; rw [if_neg hodd]
            have HE := Lib.hid e
            clear ha e hodd h0
            go_wp2
            go_round
            case rel => exact ⟨i + 1, by go_num, by omega, by rw [hs.out, HE.out]; go_num⟩
            case measure => simp [intOf]; omega
        · obtain rfl : i = 8 := by omega
          have hcell : wr.cell? ⟨w.heap.size + 1, k, none⟩ = some (.int .u32 0) := by
            rw [cell_of_row wr _ k _ _ _ H1.out, tabA_get hlt, if_neg (by omega)]
          have hfr : wr.frozen? ⟨w.heap.size + 1, k, none⟩ = false := frozen_of_row wr _ k _ _ H1.out
          have HC := Lib.hid hc
          clear hc hs
          go_wp2
          go_roundw
          case rel =>
            refine ⟨k + 1, by go_num, by omega, ?_, ?_, ?_, ?_⟩
            · rw [heap_setCell_other _ _ _ _ (by simp)]; exact H0.out
            · rw [heap_setCell_same _ _ _ _ _ _ H1.out]
              have e : tabN k = c := HC.out
              rw [← tabA_step, e]
            · exact hb.setCell (by simp) _
            · simp [World.setCell]; omega
          case measure => simp [intOf]; omega
    · obtain rfl : k = 256 := by omega
      go_wp2_with (first
        | (refine wpList_load_row rfl _ _ rfl (w.heap.size + 1) rfl _ _ _ _ H1.out Tryd.underlying154 rfl (by rw [sizeTab, tabA_size]) ?_)
        | (refine wpList_store_row rfl _ _ _ rfl w.heap.size (tabA 256) rfl rfl _ _ H0.out (by rw [sizeTab, tabA_size]) (by rw [tabA_size]; rfl) (tabA_one _) ?_))
      refine bodyPost_ret (results_cell_row rfl _ _ w.heap.size _ _ _ _ rfl (setRow_heap _ _ _ (tabA 256) _ _ H0.out) Tryd.underlying154 rfl (by rw [sizeTab, tabA_size])) rfl ⟨rfl, below_setRow hb (Nat.le_refl _) _⟩
end Go.Proofs.YtmdbcknlipahgaaDoor
namespace Go.Proofs.YtmdbcknlipahgaaDoor
open Go.RowKit
set_option maxHeartbeats 1000000 in
set_option maxRecDepth 100000 in
theorem sum_any (p : Option Addr) (c n : Nat) (l : List Nat) (w : World) (hl : IsB w (.slice p n c) l) :
    Calls Tryd.prog 63 #[.slice p n c] w fun e w' => e = .returned (.int .u32 (sumL l : Int)) ∧ Below w.heap.size w w' := by
  obtain ⟨rfl, hc1, hc2⟩ := hl.lens
  have HL := Lib.hid hl
  have hlen : l.length ≤ 9223372036854775807 := by omega
  clear hc1 hc2 hl
  have hz := zeroTab
  go_enter Tryd.func63, Tryd.ntmps63
  go_wp2_with fail
  refine (table_any w).mono ?_; rintro e w1 ⟨rfl, hb1⟩
  go_wp2_with (refine wpList_store_row rfl _ _ _ rfl w1.heap.size (tabA 256) rfl rfl _ _ (heap_alloc_new w1 _) (by rw [sizeTab, tabA_size]) (by rw [tabZ_eq, tabA_size, tabA_size]) (tabA_one _) ?_)
  have hT : ((w1.alloc (.cells tabZ 154)).setRow w1.heap.size (tabA 256)).heap[w1.heap.size]? = some (.cells (tabA 256) 154 (0, 0)) := setRow_heap _ _ _ (tabA 256) _ _ (heap_alloc_new w1 _)
  have hbW : Below w.heap.size w ((w1.alloc (.cells tabZ 154)).setRow w1.heap.size (tabA 256)) := below_setRow (hb1.alloc hb1.size _) hb1.size _
  generalize ((w1.alloc (.cells tabZ 154)).setRow w1.heap.size (tabA 256)) = W at *
  have HL2 := Lib.hid (HL.out.later hbW)
  have HT := Lib.hid hT
  clear hT
  go_loop [4, 10] (fun s i => ∃ k s' : Nat, i = .int .i64 (k : Int) ∧ k ≤ l.length ∧ s = .int .u32 (s' : Int) ∧ s' < 4294967296 ∧ sumF 4294967295 l = sumF s' (l.drop k)) (fun _ i => l.length - (intOf i).toNat)
  case atStart => exact ⟨0, 4294967295, rfl, by omega, rfl, by omega, rfl⟩
  case round =>
    obtain ⟨k, s, rfl, hk, rfl, hs, hf⟩ := hrel
    have HF := Lib.hid hf
    clear hf
    by_cases hlt : k < l.length
    · have hcb : l[k] < 256 := HL.out.2 _ (List.getElem_mem hlt)
      obtain ⟨b, off, rfl, hcell⟩ := HL2.out.1.get (bys_get hlt)
      have hdr := Lib.hid (drop_cons hlt)
      generalize hc : l[k] = x at hcb hcell hdr
      clear hc
      have hj256 : (s % 256 ^^^ x) < 2 ^ 8 := Nat.xor_lt_two_pow (by omega) (by omega)
      have hbx : bits .xor .u8 ((s : Int) % 256) (x : Int) = ((s % 256 ^^^ x : Nat) : Int) := by
        have := u8_xor_nat (s % 256) x (by omega) hcb
        rw [← this]; congr 1
      have hstep := Lib.hid (show sum1 s x = tabN (s % 256 ^^^ x) ^^^ s / 256 from rfl)
      have hs1 := Lib.hid (sum1_lt hs hcb)
      generalize hj : (s % 256 ^^^ x) = j at *
      have HJ := Lib.hid hj
      clear hj
      have hjl : j < 256 := by omega
      have hcj : W.cell? ⟨w1.heap.size, j, none⟩ = some (.int .u32 ((tabN j : Nat) : Int)) := by
        rw [cell_of_row W _ j _ _ _ HT.out, tabA_get hjl, if_pos hjl]
      have hx32 := Lib.hid (show bits .xor .u32 ((tabN j : Nat) : Int) ((s : Int) / 256) = ((tabN j ^^^ s / 256 : Nat) : Int) by
        have := u32_xor_nat (tabN j) (s / 256) (tabN_lt (by omega)) (by omega)
        rw [← this]; congr 1)
      have hjb : (0 : Int) ≤ (j : Int) ∧ (j : Int) < 256 := by omega
      generalize tabN j = tj at *
      clear hj256
      go_wp2
      go_round
      case rel => exact ⟨k + 1, sum1 s x, by go_num, by omega, by rw [hstep.out, hx32.out], hs1.out, by rw [HF.out, hdr.out]; rfl⟩
      case measure => simp [intOf]; omega
    · obtain rfl : k = l.length := by omega
      have hsg : IntKind.u32.signed = false := rfl
      go_wp2
      go_ret
      refine ⟨congrArg (fun z => Ending.returned (.int .u32 z)) ?_, hbW⟩
      have e : sumF 4294967295 l = s := by rw [HF.out, List.drop_length]; rfl
      show bits BinOp.xor IntKind.u32 IntKind.u32.max (s : Int) = _
      unfold sumL
      rw [e]
      have e2 : IntKind.u32.max = ((4294967295 : Nat) : Int) := by decide
      rw [e2, u32_xor_nat 4294967295 s (by omega) hs, Nat.xor_comm, xor_ones32 s hs]
end Go.Proofs.YtmdbcknlipahgaaDoor
