/- The walk of the law PlayFixed. -/
import Derived.Test.YtmdbcknlipahgaaDoorMRead
import Derived.Test.YtmdbcknlipahgaaDoorPShow
namespace Go.Proofs.YtmdbcknlipahgaaDoor
open Go.RowKit
theorem rdM_ok {s : List UInt8} (h : allL s) : ∀ m ∈ rdM s, MvOk m := by
  intro m hm
  unfold rdM at hm
  obtain ⟨x, hx, rfl⟩ := List.mem_map.1 hm
  exact ⟨moveM_in x, good_ok (h x hx)⟩
theorem show_rdM {s : List UInt8} (h : allL s) : showM (rdM s) = s := by
  unfold rdM
  rw [show_good _ h, lines_sum]
theorem rdM_len (s : List UInt8) : (rdM s).length = (linesL s).length := by simp [rdM]
set_option maxHeartbeats 4000000 in
set_option maxRecDepth 100000 in
theorem playFixed_walk (w : World) (s : ByteArray) (ht : Tabs w) (hf : FormsAt w) :
    Calls Tryd.prog 6 #[.string s] w fun e w' => e = .returned (.bool true) ∧ Below w.heap.size w w' := by
  have HRD := Lib.hid (mread_ok s w ht hf)
  have HT := Lib.hid ht
  have HF := Lib.hid hf
  clear ht hf
  go_enter Tryd.func6, Tryd.ntmps6
  go_wp2_with fail
  refine HRD.out.mono ?_; rintro e w1 ⟨hok, hb1⟩
  rcases hok with ⟨⟨ev, hev, rfl⟩, _⟩ | ⟨_, hal, hct, p, n, c, rfl, hn, hrow⟩
  · have he1 : (ev != 0) = true := by simpa using hev
    clear hev
    go_wp2_with fail
    go_ret
    exact ⟨rfl, hb1⟩
  · have hse : bs (showM (rdM s.data.toList)) = s := by rw [show_rdM hal]; exact ByteArray.ext (by simp [bs])
    have HSH := Lib.hid (mshow_ok p n c (rdM s.data.toList) w1 (Sl.of_own hrow) (rdM_ok hal) (by rw [hn, rdM_len]; exact hct) (HT.out.later hb1) (HF.out.later hb1))
    rw [hse] at HSH
    clear hse hal hct hn hrow
    go_wp2_with fail
    refine HSH.out.mono ?_; rintro e w2 ⟨rfl, hb2⟩
    go_wp2_with fail
    go_ret
    exact ⟨rfl, hb1.trans (hb2.mono hb1.size)⟩
end Go.Proofs.YtmdbcknlipahgaaDoor
