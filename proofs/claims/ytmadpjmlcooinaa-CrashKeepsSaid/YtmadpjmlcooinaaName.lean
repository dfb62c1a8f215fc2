/- The walk of pacelinekeep.name. -/
import Derived.Test.YtmadpjmlcooinaaPick
import Derived.Test.YtmadpjmlcooinaaBoxed
import Derived.Test.YtmadpjmlcooinaaPDisk
import Derived.Test.YtmadpjmlcooinaaSome
import Derived.IntWalk
namespace Go.Proofs.Ytmadpjmlcooinaa
open Go.RowKit
def nmC (c : Nat) : ByteArray := strN [97 + c]
theorem allB_nm {c : Nat} (h : c < 4) : AllB [97 + c] := fun x hx => by rw [List.mem_singleton.1 hx]; omega
theorem nmC_inj {a b : Nat} (ha : a < 4) (hb : b < 4) (h : (nmC a).toList = (nmC b).toList) : a = b := by
  rw [ByteArray.toList_eq, ByteArray.toList_eq] at h
  have h2 := strN_inj (allB_nm ha) (allB_nm hb) (ByteArray.ext (Array.toList_inj.1 h))
  injection h2 with h2
  omega
theorem nmC_ok {c : Nat} (_ : c < 4) : NmOk (nmC c) := by
  have e : (nmC c).toList = [UInt8.ofNat ((97 + c : Nat) : Int).toNat] := by
    rw [ByteArray.toList_eq]; rfl
  refine ⟨?_, ?_, by rw [e]; rfl, by rw [e]; simp⟩
  · exact Nat.le_refl 1
  · show 1 ≤ 20; omega
set_option maxHeartbeats 4000000 in
set_option maxRecDepth 100000 in
theorem name_ok (x : Int) (w : World) (h0 : -9223372036854775808 ≤ x) (h1 : x ≤ 9223372036854775807) :
    Calls Try.prog 29 #[.int .i64 x] w fun e w' => e = .returned (.string (nmC (pickN x 4))) ∧ Below w.heap.size w w' := by
  have HP := Lib.hid (fun w' => picked_i x 4 4 w' rfl h0 h1 (by omega) (by omega))
  have hlt := pickN_lt x (m := 4) (by omega)
  generalize pickN x 4 = c at *
  have hIB : IsB (w.alloc (.cells #[.int .u8 (97 + (c : Int))] 5)) (.slice (some ⟨w.heap.size, 0, none⟩) [97 + c].length 1) [97 + c] :=
    ⟨sl_new w [.int .u8 ((97 + c : Nat) : Int)] 5, allB_nm hlt⟩
  have hcv := convB (P := Try.prog) hIB 72 5 9 Try.underlying72 Try.underlying5 Try.underlying9
  rw [show [97 + c].length = 1 from rfl, show strN [97 + c] = nmC c from rfl] at hcv
  have hw1 : IntKind.i64.wrap (97 + (c : Int)) = 97 + (c : Int) := IntWalk.i64_in _ (by omega)
  have hw2 : IntKind.u8.wrap (97 + (c : Int)) = 97 + (c : Int) := IntWalk.u8_in _ (by omega)
  generalize nmC c = s at *
  clear hIB
  go_enter Try.func29, Try.ntmps29
  go_wp2_with fail
  refine (HP.out _).mono ?_; rintro e w' ⟨rfl, rfl⟩
  clear HP
  go_wp2_with fail
  go_ret
  exact ⟨rfl, alloc_below _ _⟩
end Go.Proofs.Ytmadpjmlcooinaa
