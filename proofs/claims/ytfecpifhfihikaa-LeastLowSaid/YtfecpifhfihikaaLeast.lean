/- The walk of merge.Least. -/
import Derived.Test.YtfecpifhfihikaaCompM
namespace Go.Proofs.Ytfecpifhfihikaa
open Go.RowKit Go.Sort Go.Proofs
set_option maxHeartbeats 1000000 in
set_option maxRecDepth 100000 in
theorem leastM_ok (n c : Nat) (p : Option Addr) (l : List (Nat × Nat)) (w : World) (h : Sl w 2 (.slice p n c) n (mcs l)) (hn : n ≤ 5000) (hs : l.Pairwise fun a b => leO cfM a b = true) :
    Calls Try.prog 7 #[.slice p n c] w fun e w' => ∃ p' c', e = .returned (.tuple #[.slice p' (cmpT l n).length c', .int .i64 0]) ∧ w'.ownsRow w.heap.size 31 2 (.slice p' (cmpT l n).length c') (cmpT l n).length (mcs (cmpT l n)) ∧ Below w.heap.size w w' := by
  have HIS := Lib.hid (isSortM_ok n c p l w h hs)
  have HCL := Lib.hid (fun (W : World) (hW : Below w.heap.size w W) => cloneM_ok n c p (mcs l) W (h.later hW) (mcs_one l) (by omega))
  clear h hs
  have hd : decide ((5000 : Int) < (n : Int)) = false := by simp; omega
  go_enter Try.func7, Try.ntmps7
  go_wp2_with fail
  refine HIS.out.mono ?_; rintro e w1 ⟨rfl, hb1⟩
  go_wp2_with fail
  refine (HCL.out _ hb1).mono ?_; rintro e w2 ⟨p2, c2, rfl, ho2, hb2⟩
  have hb12 := hb1.trans (hb2.mono hb1.size)
  go_wp2_with fail
  refine (compM_ok n c2 w.heap.size p2 l w2 (own_mono ho2 hb1.size) (Nat.le_trans hb1.size hb2.size) hn).mono ?_; rintro e w3 ⟨rfl, ho3, hb3⟩
  go_wp2_with fail
  go_ret2
  exact ⟨p2, c2, rfl, ho3, hb12.trans hb3⟩
end Go.Proofs.Ytfecpifhfihikaa
