/- The walk of disk.Read once more: what it hands out is the call's own. -/
import Derived.Test.YtmadpjmlcooinaaDRead
namespace Go.Proofs.Ytmadpjmlcooinaa
open Go.RowKit
set_option maxHeartbeats 4000000 in
set_option maxRecDepth 100000 in
theorem read_own (nm : ByteArray) (v : Value) (l : List (Fl × Value)) (d : List Nat) (w : World) (hR : RDk w 0 v l) (hD : DkOk (l.map (·.1))) (hd : rdF (l.map (·.1)) nm = some d) :
    Calls Try.prog 28 #[.agg #[v], .string nm] w fun e w' => ∃ q c, e = .returned (.tuple #[.slice q d.length c, .int .i64 0]) ∧ w'.ownsRow w.heap.size 5 1 (.slice q d.length c) d.length (bys d) ∧ Below w.heap.size w w' := by
  have hval := hR.val
  obtain ⟨p, c, rfl, hcc1, hcc2⟩ := hval
  have HO := Lib.hid (fun w' (hb : Below w.heap.size w w') => dopen_ok _ l w' (hR.later hb) hD)
  have hn40 := hD.len
  rw [List.length_map] at hn40
  obtain ⟨fs, hfs⟩ : ∃ fs, fs = l.map (·.1) := ⟨_, rfl⟩
  rw [← hfs] at hd HO
  have HD := Lib.hid hd
  have hfl : fs.length = l.length := by rw [hfs, List.length_map]
  have HFL := Lib.hid hfl
  clear hR hD hd hfs hfl
  obtain ⟨b1, B1, z1⟩ := boxed0 w [.slice p l.length c] 75
  have hx0 := B1.one
  go_enter Try.func28, Try.ntmps28
  go_wp2_with fail
  refine (HO.out _ b1).mono ?_; rintro e w1 ⟨h, p1, c1, l1, rfl, hl1, hh1, hh2, X1, O1, hb1⟩
  have hw1 := b1.trans (hb1.mono (by omega))
  obtain ⟨hi, hdt⟩ := rdF_some HD.out
  have hl1len : l1.length = l.length := by rw [← HFL.out, ← hl1.out, List.length_map]
  have hil : ixF (l1.map (·.1)) nm < l1.length := by rw [hl1.out, hl1len, ← HFL.out]; exact hi
  have hR1 := O1.rd
  obtain ⟨b, off, rfl, hc0, hc1, hc2, hdv⟩ := hR1.get hil
  have hdt2 : (l1[ixF (l1.map (·.1)) nm]'hil).1.dt = d := by
    rw [← hdt]
    have e : (l1.map (·.1))[ixF (l1.map (·.1)) nm]'(by rw [List.length_map]; exact hil) = l1[ixF (l1.map (·.1)) nm].1 := List.getElem_map _
    rw [← e]
    congr 1
    simp only [hl1.out]
  have hdw := O1.inn _ (List.getElem_mem hil)
  rw [hdt2] at hdv hdw
  obtain ⟨q, dd, hq, hdd1, hdd2⟩ := hdv.val
  rw [hq] at hc1 hdv hdw
  have HF := Lib.hid (find_hit h nm b off c1 l1 w1 X1 (hR1.mono (Nat.zero_le _)) (by omega) hil)
  have HDV := Lib.hid hdw
  have hbb := World.block_lt_of_cell? w1 _ hc1
  clear hdt2 hdv hdw hq hdt hi O1 hR1 hc0 hc2 hx0 b1 B1 z1 hl1
  generalize ixF (l1.map (·.1)) nm = ix at *
  go_wp2_with fail
  refine HF.out.mono ?_; rintro e w2 ⟨rfl, hb2⟩
  have hc1' := (hb2.cell (p := ⟨b, off + ix * 3 + 1, none⟩) hbb).trans hc1
  have hz : (w.alloc (.cells #[.slice p l.length c] 75)).heap.size = w.heap.size + 1 := by simp
  rw [hz] at hh1
  clear hz
  go_wp2_with fail
  refine bodyPost_ret (results_tmp2 rfl _ _ _) rfl ?_
  exact ⟨q, dd, rfl, own_mono (own_later HDV.out hb2) (by omega), hw1.trans (hb2.mono hw1.size)⟩
end Go.Proofs.Ytmadpjmlcooinaa
