/- The walk of disk.Sync. -/
import Derived.Test.YtmdbcknlipahgaaDoorFind
import Derived.Test.YtmdbcknlipahgaaDoorDk2
namespace Go.Proofs.YtmdbcknlipahgaaDoor
open Go.RowKit
set_option maxHeartbeats 4000000 in
set_option maxRecDepth 100000 in
theorem read_hit (nm : ByteArray) (v : Value) (l : List (Fl × Value)) (d : List Nat) (w : World) (hR : RDk w 0 v l) (hD : DkOk (l.map (·.1))) (hd : rdF (l.map (·.1)) nm = some d) :
    Calls Tryd.prog 52 #[.agg #[v], .string nm] w fun e w' => ∃ q c, e = .returned (.tuple #[.slice q d.length c, .int .i64 0]) ∧ RdB w' w.heap.size 1 (.slice q d.length c) d.length (bys d) ∧ Below w.heap.size w w' := by
  have hval := hR.val
  obtain ⟨p, c, rfl, hcc1, hcc2⟩ := hval
  have HO := Lib.hid (fun w' (hb : Below w.heap.size w w') => dopen_ok _ l w' (hR.later hb) hD)
  have hn40 := hD.len
  rw [List.length_map] at hn40
  obtain ⟨fs, hfs⟩ : ∃ fs, fs = l.map (·.1) := ⟨_, rfl⟩
  rw [← hfs] at hd HO
  have HD := Lib.hid hd
  have hfl : fs.length = l.length := by rw [hfs, List.length_map]
  have HFL := Lib.hid hfl
  clear hR hD hd hfs hfl
  obtain ⟨b1, B1, z1⟩ := boxed0 w [.slice p l.length c] 61
  have hx0 := B1.one
  go_enter Tryd.func52, Tryd.ntmps52
  go_wp2_with fail
  refine (HO.out _ b1).mono ?_; rintro e w1 ⟨h, p1, c1, l1, rfl, hl1, hh1, hh2, X1, O1, hb1⟩
  have hw1 := b1.trans (hb1.mono (by omega))
  obtain ⟨hi, hdt⟩ := rdF_some HD.out
  have hl1len : l1.length = l.length := by rw [← HFL.out, ← hl1.out, List.length_map]
  have hil : ixF (l1.map (·.1)) nm < l1.length := by rw [hl1.out, hl1len, ← HFL.out]; exact hi
  have hR1 := O1.rd
  obtain ⟨b, off, rfl, hc0, hc1, hc2, hdv⟩ := hR1.get hil
  have hdt2 : (l1[ixF (l1.map (·.1)) nm]'hil).1.dt = d := by
    rw [← hdt]
    have e : (l1.map (·.1))[ixF (l1.map (·.1)) nm]'(by rw [List.length_map]; exact hil) = l1[ixF (l1.map (·.1)) nm].1 := List.getElem_map _
    rw [← e]
    congr 1
    simp only [hl1.out]
  rw [hdt2] at hdv
  obtain ⟨q, dd, hq, hdd1, hdd2⟩ := hdv.val
  rw [hq] at hc1 hdv
  have HF := Lib.hid (find_hit h nm b off c1 l1 w1 X1 (hR1.mono (Nat.zero_le _)) (by omega) hil)
  have HDV := Lib.hid hdv
  have hbb := World.block_lt_of_cell? w1 _ hc1
  clear hdt2 hdv hq hdt hi O1 hR1 hc0 hc2 hx0 b1 B1 z1 hl1
  generalize ixF (l1.map (·.1)) nm = ix at *
  go_wp2_with fail
  refine HF.out.mono ?_; rintro e w2 ⟨rfl, hb2⟩
  have hc1' := (hb2.cell (p := ⟨b, off + ix * 3 + 1, none⟩) hbb).trans hc1
  have hz : (w.alloc (.cells #[.slice p l.length c] 61)).heap.size = w.heap.size + 1 := by simp
  rw [hz] at hh1
  clear hz
  go_wp2_with fail
  refine bodyPost_ret (results_tmp2 rfl _ _ _) rfl ?_
  exact ⟨q, dd, rfl, (HDV.out.later hb2).mono (by omega), hw1.trans (hb2.mono hw1.size)⟩
set_option maxHeartbeats 4000000 in
set_option maxRecDepth 100000 in
theorem read_miss (nm : ByteArray) (v : Value) (l : List (Fl × Value)) (w : World) (hR : RDk w 0 v l) (hD : DkOk (l.map (·.1))) (hd : rdF (l.map (·.1)) nm = none) :
    Calls Tryd.prog 52 #[.agg #[v], .string nm] w fun e w' => e = .returned (.tuple #[.slice none 0 0, .int .i64 7]) ∧ Below w.heap.size w w' := by
  have hval := hR.val
  obtain ⟨p, c, rfl, hcc1, hcc2⟩ := hval
  have HO := Lib.hid (fun w' (hb : Below w.heap.size w w') => dopen_ok _ l w' (hR.later hb) hD)
  have hn40 := hD.len
  rw [List.length_map] at hn40
  obtain ⟨fs, hfs⟩ : ∃ fs, fs = l.map (·.1) := ⟨_, rfl⟩
  rw [← hfs] at hd HO
  have HD := Lib.hid (rdF_none hd)
  have hfl : fs.length = l.length := by rw [hfs, List.length_map]
  have HFL := Lib.hid hfl
  clear hR hD hd hfs hfl
  obtain ⟨b1, B1, z1⟩ := boxed0 w [.slice p l.length c] 61
  have hx0 := B1.one
  go_enter Tryd.func52, Tryd.ntmps52
  go_wp2_with fail
  refine (HO.out _ b1).mono ?_; rintro e w1 ⟨h, p1, c1, l1, rfl, hl1, hh1, hh2, X1, O1, hb1⟩
  have hw1 := b1.trans (hb1.mono (by omega))
  have hl1len : l1.length = l.length := by rw [← HFL.out, ← hl1.out, List.length_map]
  have hil : ixF (l1.map (·.1)) nm = l1.length := by rw [hl1.out, hl1len, ← HFL.out]; exact HD.out
  have HF := Lib.hid (find_miss h nm p1 c1 l1 w1 X1 (O1.rd.mono (Nat.zero_le _)) (by omega) hil)
  clear O1 hx0 b1 B1 z1 hl1 hil
  go_wp2_with fail
  refine HF.out.mono ?_; rintro e w2 ⟨rfl, hb2⟩
  go_wp2_with fail
  refine bodyPost_ret (results_tmp2 rfl _ _ _) rfl ?_
  exact ⟨rfl, hw1.trans (hb2.mono hw1.size)⟩
end Go.Proofs.YtmdbcknlipahgaaDoor
namespace Go.Proofs.YtmdbcknlipahgaaDoor
open Go.RowKit
set_option maxHeartbeats 4000000 in
set_option maxRecDepth 100000 in
theorem sync_hit (nm : ByteArray) (v : Value) (l : List (Fl × Value)) (w : World) (hR : RDk w 0 v l) (hD : DkOk (l.map (·.1))) (hi : ixF (l.map (·.1)) nm < l.length) :
    Calls Tryd.prog 48 #[.agg #[v], .string nm] w fun e w' => ∃ p c l', e = .returned (.tuple #[.agg #[.slice p l'.length c], .int .i64 0]) ∧ Hid (l'.map (·.1) = syF (l.map (·.1)) nm) ∧ RDk w' w.heap.size (.slice p l'.length c) l' ∧ Below w.heap.size w w' := by
  have hval := hR.val
  obtain ⟨p, c, rfl, hcc1, hcc2⟩ := hval
  have HO := Lib.hid (fun w' (hb : Below w.heap.size w w') => dopen_ok _ l w' (hR.later hb) hD)
  have hn40 := hD.len
  rw [List.length_map] at hn40
  obtain ⟨fs, hfs⟩ : ∃ fs, fs = l.map (·.1) := ⟨_, rfl⟩
  rw [← hfs] at hi HO
  have HI := Lib.hid hi
  have hfl : fs.length = l.length := by rw [hfs, List.length_map]
  have HFL := Lib.hid hfl
  have HFS := Lib.hid hfs
  clear hR hD hi hfs hfl
  obtain ⟨b1, B1, z1⟩ := boxed0 w [.slice p l.length c] 61
  have hs1 : (w.alloc (.cells #[.slice p l.length c] 61)).heap.size = w.heap.size + 1 := by simp
  obtain ⟨b2, B2, z2⟩ := boxed0 (w.alloc (.cells #[.slice p l.length c] 61)) [.slice none 0 0] 61
  have X0 := B1.next b2
  have hx0 := X0.one
  have hbw := b1.trans (b2.mono (by omega))
  rw [hs1] at B2 z2
  clear b1 b2 B1 z1 hs1
  go_enter Tryd.func48, Tryd.ntmps48
  go_wp2_with fail
  refine (HO.out _ hbw).mono ?_; rintro e w1 ⟨h, p1, c1, l1, rfl, hl1, hh1, hh2, X1, O1, hb1⟩
  have hw1 := hbw.trans (hb1.mono hbw.size)
  have Y4 := B2.next hb1
  have hl1len : l1.length = l.length := by rw [← HFL.out, ← hl1.out, List.length_map]
  have hil : ixF (l1.map (·.1)) nm < l1.length := by rw [hl1.out, hl1len]; exact HI.out
  obtain ⟨g, rfl, _, hc11, hc12⟩ := own_ptr O1.outer (by omega)
  have hF := find_hit h nm g 0 c1 l1 w1 X1 (O1.rd.mono (Nat.zero_le _)) (by omega) hil
  have hL1 := Lib.hid hl1.out
  have hgl := O1.outer.lt g rfl
  have hgh : h + 1 ≤ g := hgl.1
  clear hx0 X0 B2 hbw hb1 hl1
  generalize hW0 : (((w.alloc (.cells #[.slice p l.length c] 61)).alloc (.cells #[.slice none 0 0] 61))) = W0 at *
  have hws : w.heap.size + 1 < h := by omega
  clear hW0
  have HIX := Lib.hid (show ixF (l1.map (·.1)) nm = ixF fs nm by rw [hL1.out])
  generalize ixF (l1.map (·.1)) nm = ix at *
  have HF := Lib.hid hF
  clear hF
  go_wp2_with fail
  refine HF.out.mono ?_; rintro e w2 ⟨rfl, hb2⟩
  have X2 := X1.next hb2
  have Y5 := Y4.next hb2
  have O2 := O1.later hb2
  have hw2 := hw1.trans (hb2.mono hw1.size)
  obtain ⟨_, _, hpe, hc0, hc1, hc2, hdv⟩ := (O2.rd).get hil
  cases hpe
  obtain ⟨q, dd, hq, hdd1, hdd2⟩ := hdv.val
  rw [hq] at hc1
  rw [Nat.zero_add] at hc0 hc1 hc2 ⊢
  have hap := O2.ap _ (List.getElem_mem hil)
  have hfr := O2.outer.frozenAt (ix * 3 + 2)
  have hfx := X2.one
  have hput := O2.mix.put (i := ix) (j := 2) (u := .int .i64 (l1[ix].1.dt.length : Int)) (v' := l1[ix].2) (f' := { l1[ix].1 with sy := l1[ix].1.dt.length }) hil (by decide) rfl hdv (fun e => hap _ e rfl)
  have hX3 := bx_oth X2 (a := ⟨g, ix * 3 + 2, none⟩) (by show h ≠ g; omega) (.int .i64 (l1[ix].1.dt.length : Int))
  have hY3 := bx_oth Y5 (a := ⟨g, ix * 3 + 2, none⟩) (by show w.heap.size + 1 ≠ g; omega) (.int .i64 (l1[ix].1.dt.length : Int))
  have hw3 : Below w.heap.size w (w2.setCell ⟨g, ix * 3 + 2, none⟩ (.int .i64 (l1[ix].1.dt.length : Int))) := hw2.setCell (by show w.heap.size ≤ g; omega) _
  have hsyF : (l1.set ix ({ l1[ix].1 with sy := l1[ix].1.dt.length }, l1[ix].2)).map (·.1) = syF fs nm := by
    have hix := HIX.out
    have e1 : ixF fs nm < fs.length := by rw [HFL.out]; exact HI.out
    unfold syF
    rw [dif_pos e1, List.map_set]
    simp only [← hL1.out, List.getElem_map, hix]
  have HSY := Lib.hid hsyF
  have hlen : (l1.set ix ({ l1[ix].1 with sy := l1[ix].1.dt.length }, l1[ix].2)).length = l1.length := by rw [List.length_set]
  have HPUT := Lib.hid hput
  have HLEN := Lib.hid hlen
  clear hsyF hput hlen hap hq hdv O1 O2 X1 Y4 Y5 HIX HI
  generalize l1.set ix ({ l1[ix].1 with sy := l1[ix].1.dt.length }, l1[ix].2) = l3 at *
  generalize l1[ix].1.dt.length = dl at *
  have hxx := hX3.one
  obtain ⟨yt, hyt⟩ := hY3
  have hyf : (w2.setCell ⟨g, ix * 3 + 2, none⟩ (.int .i64 (dl : Int))).frozen? ⟨w.heap.size + 1, 0, none⟩ = false := by simp [World.frozen?, hyt]
  have hyc : (w2.setCell ⟨g, ix * 3 + 2, none⟩ (.int .i64 (dl : Int))).cell? ⟨w.heap.size + 1, 0, none⟩ = some (.slice none 0 0) := by simp [World.cell?, hyt]
  go_wp2_with fail
  refine bodyPost_ret (v := .tuple #[.agg #[.slice (some ⟨g, 0, none⟩) l1.length c1], .int .i64 0]) ?_ rfl ⟨some ⟨g, 0, none⟩, c1, l3, by rw [HLEN.out], Lib.hid (by rw [HSY.out, HFS.out]), ?_, ?_⟩
  · rw [results_cell_tmp rfl]
    go_simp
  · rw [HLEN.out]
    refine RDk.mono (B := h + 1) ?_ (by omega)
    exact (HPUT.out.setCell (by show w.heap.size + 1 < h + 1; omega) _).rd
  · exact hw3.setCell (by show w.heap.size ≤ w.heap.size + 1; omega) _
set_option maxHeartbeats 4000000 in
set_option maxRecDepth 100000 in
theorem sync_miss (nm : ByteArray) (v : Value) (l : List (Fl × Value)) (w : World) (hR : RDk w 0 v l) (hD : DkOk (l.map (·.1))) (hi : ixF (l.map (·.1)) nm = l.length) :
    Calls Tryd.prog 48 #[.agg #[v], .string nm] w fun e w' => e = .returned (.tuple #[.agg #[.slice none 0 0], .int .i64 7]) ∧ Below w.heap.size w w' := by
  have hval := hR.val
  obtain ⟨p, c, rfl, hcc1, hcc2⟩ := hval
  have HO := Lib.hid (fun w' (hb : Below w.heap.size w w') => dopen_ok _ l w' (hR.later hb) hD)
  have hn40 := hD.len
  rw [List.length_map] at hn40
  obtain ⟨fs, hfs⟩ : ∃ fs, fs = l.map (·.1) := ⟨_, rfl⟩
  rw [← hfs] at hi HO
  have HI := Lib.hid hi
  have hfl : fs.length = l.length := by rw [hfs, List.length_map]
  have HFL := Lib.hid hfl
  have HFS := Lib.hid hfs
  clear hR hD hi hfs hfl
  obtain ⟨b1, B1, z1⟩ := boxed0 w [.slice p l.length c] 61
  have hs1 : (w.alloc (.cells #[.slice p l.length c] 61)).heap.size = w.heap.size + 1 := by simp
  obtain ⟨b2, B2, z2⟩ := boxed0 (w.alloc (.cells #[.slice p l.length c] 61)) [.slice none 0 0] 61
  have X0 := B1.next b2
  have hx0 := X0.one
  have hbw := b1.trans (b2.mono (by omega))
  rw [hs1] at B2 z2
  clear b1 b2 B1 z1 hs1
  go_enter Tryd.func48, Tryd.ntmps48
  go_wp2_with fail
  refine (HO.out _ hbw).mono ?_; rintro e w1 ⟨h, p1, c1, l1, rfl, hl1, hh1, hh2, X1, O1, hb1⟩
  have hw1 := hbw.trans (hb1.mono hbw.size)
  have Y4 := B2.next hb1
  have hl1len : l1.length = l.length := by rw [← HFL.out, ← hl1.out, List.length_map]
  have hil : ixF (l1.map (·.1)) nm = l1.length := by rw [hl1.out, hl1len]; exact HI.out
  have HF := Lib.hid (find_miss h nm p1 c1 l1 w1 X1 (O1.rd.mono (Nat.zero_le _)) (by omega) hil)
  clear hx0 X0 B2 hbw hb1 hl1 hil X1 O1
  go_wp2_with fail
  refine HF.out.mono ?_; rintro e w2 ⟨rfl, hb2⟩
  have Y5 := Y4.next hb2
  have hw2 := hw1.trans (hb2.mono hw1.size)
  obtain ⟨yt, hyt⟩ := Y5
  have hyf : w2.frozen? ⟨w.heap.size + 1, 0, none⟩ = false := by simp [World.frozen?, hyt]
  have hyc : w2.cell? ⟨w.heap.size + 1, 0, none⟩ = some (.slice none 0 0) := by simp [World.cell?, hyt]
  go_wp2_with fail
  refine bodyPost_ret (v := .tuple #[.agg #[.slice none 0 0], .int .i64 7]) ?_ rfl ⟨rfl, ?_⟩
  · rw [results_cell_tmp rfl]
    go_simp
  · exact hw2.setCell (by show w.heap.size ≤ w.heap.size + 1; omega) _
end Go.Proofs.YtmdbcknlipahgaaDoor
