/- The walk of the law SheetFixed. -/
import Derived.Test.YtmdbcknlipahgaaDoorSRead
namespace Go.Proofs.YtmdbcknlipahgaaDoor
open Go.RowKit
set_option maxHeartbeats 4000000 in
set_option maxRecDepth 100000 in
theorem sheetFixed_walk (w : World) (s : ByteArray) (ht : Tabs w) :
    Calls Tryd.prog 4 #[.string s] w fun e w' => e = .returned (.bool true) ∧ Below w.heap.size w w' := by
  have HRD := Lib.hid (read_ok s w ht)
  have HT := Lib.hid ht
  clear ht
  go_enter Tryd.func4, Tryd.ntmps4
  go_wp2_with fail
  refine HRD.out.mono ?_; rintro e w1 ⟨hok, hb1⟩
  rcases hok with ⟨_, rfl⟩ | ⟨_, _, rfl⟩ | ⟨_, hbs, p, n, c, rfl, hn, hrow⟩
  · go_wp2_with fail
    go_ret
    exact ⟨rfl, hb1.alloc hb1.size _⟩
  · go_wp2_with fail
    go_ret
    exact ⟨rfl, hb1.alloc hb1.size _⟩
  · obtain ⟨hc, hsh⟩ := hbs
    have hbd := rdS_bd (linesL s.data.toList)
    rw [← readL_rdS] at hbd
    have hse : shF (readL s.data.toList).1 (readL s.data.toList).2 = s := ByteArray.ext (Array.toList_inj.1 hsh)
    have hbA : Below w.heap.size w (w1.alloc (.cells #[.int .i64 (readL s.data.toList).1, .slice p n c] 24)) := hb1.alloc hb1.size _
    have HSH := Lib.hid (show_ok _ hbd.1 hbd.2 p n c _ (w1.alloc (.cells #[.int .i64 (readL s.data.toList).1, .slice p n c] 24)) (Sl.of_own (hrow.alloc _)) (HT.out.later hbA))
    rw [hc, hse] at HSH
    generalize (readL s.data.toList).1 = N at *
    clear hc hsh hse hn hrow hbd
    go_wp2_with fail
    refine HSH.out.mono ?_; rintro e w2 ⟨rfl, hb2⟩
    go_wp2_with fail
    go_ret
    exact ⟨rfl, hbA.trans (hb2.mono hbA.size)⟩
end Go.Proofs.YtmdbcknlipahgaaDoor
