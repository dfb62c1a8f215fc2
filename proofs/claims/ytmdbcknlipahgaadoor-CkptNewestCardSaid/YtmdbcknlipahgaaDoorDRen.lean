/- The walk of disk.Rename. -/
import Derived.Test.YtmdbcknlipahgaaDoorDRem
import Derived.Deep.RegionHeld3
import Derived.Deep.DeepCutAuto
namespace Go.Proofs.YtmdbcknlipahgaaDoor
open Go.RowKit
/-- both ways in one: a name is struck out of files -/
theorem del_any_ren (nm : ByteArray) (q B g c : Nat) (l : List (Fl × Value)) (w : World) (hq : Bx w q [.string nm]) (hqB : q < B) (hO : MixDk w B (.slice (some ⟨g, 0, none⟩) l.length c) l) (hpos : 0 < l.length) (hm : l.length ≤ 40)
    (hone : (l.map (·.1)).Pairwise (fun a b => a.nm.toList ≠ b.nm.toList)) :
    Calls Tryd.prog 66 #[.slice (some ⟨g, 0, none⟩) l.length c, .func (Fn.func 68) #[] #[.pointer (some ⟨q, 0, none⟩)]] w fun e w' => ∃ l2, e = .returned (.slice (some ⟨g, 0, none⟩) l2.length c) ∧ Hid (l2.map (·.1) = rmF (l.map (·.1)) nm) ∧ MixDk w' B (.slice (some ⟨g, 0, none⟩) l2.length c) l2 ∧ l2.length ≤ l.length ∧ w.grownBy w' (some g) := by
  by_cases hi : ixF (l.map (·.1)) nm < l.length
  · obtain ⟨m, hl⟩ : ∃ m, l.length = m + 1 := ⟨l.length - 1, by omega⟩
    have hO' := hO
    rw [hl] at hO'
    have h := del_hit_ren nm q B g c m l w hq hqB hO' hl (by omega) hi (fun j hj hlt => by
      have h2 := after_ix hone (j := j) (by rw [List.length_map]; exact hj) hlt
      rwa [List.getElem_map] at h2)
    rw [hl]
    refine h.mono ?_
    rintro e w' ⟨rfl, ho, hg⟩
    have hel : (l.eraseIdx (ixF (l.map (·.1)) nm)).length = m := by rw [List.length_eraseIdx_of_lt hi, hl]; rfl
    refine ⟨l.eraseIdx (ixF (l.map (·.1)) nm), by rw [hel], Lib.hid ?_, ⟨by rw [hel]; exact ho, fun x hx => (hO.inn x (List.mem_of_mem_eraseIdx hx)).grown hg (fun k hk e => by cases e; exact hO.ap x (List.mem_of_mem_eraseIdx hx) g hk rfl), fun x hx k hk e => hO.ap x (List.mem_of_mem_eraseIdx hx) k hk (by cases e; rfl)⟩, by omega, hg⟩
    rw [rmF_erase hone (by rw [List.length_map]; exact hi)]
    exact map_erase _ _
  · have hi' : ixF (l.map (·.1)) nm = l.length := by have := ixF_le (l.map (·.1)) nm; rw [List.length_map] at this; omega
    refine (del_miss_ren nm q c (some ⟨g, 0, none⟩) l w hq (hO.rd.mono (Nat.zero_le _)) hm hi').mono ?_
    rintro e w' ⟨rfl, hb⟩
    refine ⟨l, rfl, Lib.hid ?_, hO.later hb, Nat.le_refl _, grown_belowS hb⟩
    refine (List.filter_eq_self.2 (fun x hx => ?_)).symm
    obtain ⟨k, hk, rfl⟩ := List.getElem_of_mem hx
    have := ixF_before (l := l.map (·.1)) (nm := nm) (i := k) (by rw [List.length_map] at hk; omega) hk
    simpa using this
theorem ixF_lt {l : List Fl} {nm : ByteArray} : ixF l nm < l.length ↔ ∃ f ∈ l, f.nm.toList = nm.toList := by
  constructor
  · intro h
    exact ⟨_, List.getElem_mem h, ixF_at h⟩
  · rintro ⟨f, hf, he⟩
    have hle := ixF_le l nm
    rcases Nat.lt_or_ge (ixF l nm) l.length with h | h
    · exact h
    · obtain ⟨k, hk, rfl⟩ := List.getElem_of_mem hf
      exact absurd he (ixF_before (by omega) hk)
theorem rmF_ix {fs : List Fl} {a b : ByteArray} (h : ixF fs a < fs.length) (hne : a.toList ≠ b.toList) : ixF (rmF fs b) a < (rmF fs b).length := by
  obtain ⟨f, hf, he⟩ := ixF_lt.1 h
  refine ixF_lt.2 ⟨f, List.mem_filter.2 ⟨hf, ?_⟩, he⟩
  simp only [Bool.not_eq_true', decide_eq_false_iff_not]
  rw [he]; exact hne
set_option maxHeartbeats 4000000 in
set_option maxRecDepth 100000 in
theorem rename_miss (nm : ByteArray) (v : Value) (l : List (Fl × Value)) (tn : ByteArray) (w : World) (hR : RDk w 0 v l) (hD : DkOk (l.map (·.1))) (hto : NmOk tn) (hi : ixF (l.map (·.1)) nm = l.length) :
    Calls Tryd.prog 49 #[.agg #[v], .string nm, .string tn] w fun e w' => e = .returned (.tuple #[.agg #[.slice none 0 0], .int .i64 7]) ∧ Below w.heap.size w w' := by
  have hval := hR.val
  obtain ⟨p, c, rfl, hcc1, hcc2⟩ := hval
  have HO := Lib.hid (fun w' (hb : Below w.heap.size w w') => dopen_ok _ l w' (hR.later hb) hD)
  have hn40 := hD.len
  rw [List.length_map] at hn40
  obtain ⟨fs, hfs⟩ : ∃ fs, fs = l.map (·.1) := ⟨_, rfl⟩
  rw [← hfs] at hi HO
  have HI := Lib.hid hi
  have hfl : fs.length = l.length := by rw [hfs, List.length_map]
  have HFL := Lib.hid hfl
  have HFS := Lib.hid hfs
  clear hR hD hi hfs hfl
  obtain ⟨g1, g2, g5, g6⟩ := hto
  have hq1 : ¬ (20 : Int) < (tn.size : Int) := by omega
  have hq6 : ¬ 20 < tn.size := by omega
  obtain ⟨b1, B1, z1⟩ := boxed0 w [.slice p l.length c] 61
  have hs1 : (w.alloc (.cells #[.slice p l.length c] 61)).heap.size = w.heap.size + 1 := by simp
  obtain ⟨b2, B2, z2⟩ := boxed0 (w.alloc (.cells #[.slice p l.length c] 61)) [.string tn] 9
  have hs2 : ((w.alloc (.cells #[.slice p l.length c] 61)).alloc (.cells #[.string tn] 9)).heap.size = w.heap.size + 1 + 1 := by simp
  obtain ⟨b3, B3, z3⟩ := boxed0 ((w.alloc (.cells #[.slice p l.length c] 61)).alloc (.cells #[.string tn] 9)) [.slice none 0 0] 61
  have X0 := (B1.next b2).next b3
  have N0 := B2.next b3
  have hx0 := X0.one
  have hbw := (b1.trans (b2.mono (by omega))).trans (b3.mono (by omega))
  rw [hs1] at N0
  rw [hs2] at B3 z3
  clear b1 b2 b3 B1 B2 z1 z2 hs1 hs2
  go_enter Tryd.func49, Tryd.ntmps49
  go_wp2_with fail
  refine (HO.out _ hbw).mono ?_; rintro e w1 ⟨h, p1, c1, l1, rfl, hl1, hh1, hh2, X1, O1, hb1⟩
  have hw1 := hbw.trans (hb1.mono hbw.size)
  have N1 := N0.next hb1
  have Y4 := B3.next hb1
  have hl1len : l1.length = l.length := by rw [← HFL.out, ← hl1.out, List.length_map]
  have hL1 := Lib.hid hl1.out
  clear hx0 X0 N0 B3 hbw hb1 hl1
  generalize hW0 : (((w.alloc (.cells #[.slice p l.length c] 61)).alloc (.cells #[.string tn] 9)).alloc (.cells #[.slice none 0 0] 61)) = W0 at *
  have hws : w.heap.size + 1 + 1 < h := by omega
  clear hW0
  have hn1 := N1.one
  have hil : ixF (l1.map (·.1)) nm = l1.length := by rw [hL1.out, hl1len]; exact HI.out
  have HF := Lib.hid (find_miss h nm p1 c1 l1 w1 X1 (O1.rd.mono (Nat.zero_le _)) (by omega) hil)
  clear hil X1 O1 hl1len
  go_wp2_with fail
  refine HF.out.mono ?_; rintro e w2 ⟨rfl, hb2⟩
  have Y5 := Y4.next hb2
  have hw2 := hw1.trans (hb2.mono hw1.size)
  obtain ⟨yt, hyt⟩ := Y5
  have hyf : w2.frozen? ⟨w.heap.size + 1 + 1, 0, none⟩ = false := by simp [World.frozen?, hyt]
  have hyc : w2.cell? ⟨w.heap.size + 1 + 1, 0, none⟩ = some (.slice none 0 0) := by simp [World.cell?, hyt]
  go_wp2_with fail
  refine bodyPost_ret (v := .tuple #[.agg #[.slice none 0 0], .int .i64 7]) ?_ rfl ⟨rfl, ?_⟩
  · rw [results_cell_tmp rfl]
    go_simp
  · exact hw2.setCell (by show w.heap.size ≤ w.heap.size + 1 + 1; omega) _
set_option maxHeartbeats 4000000 in
set_option maxRecDepth 100000 in
theorem rename_same (nm : ByteArray) (v : Value) (l : List (Fl × Value)) (tn : ByteArray) (w : World) (hR : RDk w 0 v l) (hD : DkOk (l.map (·.1))) (hto : NmOk tn) (hi : ixF (l.map (·.1)) nm < l.length) (heq : nm.toList = tn.toList) :
    Calls Tryd.prog 49 #[.agg #[v], .string nm, .string tn] w fun e w' => ∃ p c l', e = .returned (.tuple #[.agg #[.slice p l'.length c], .int .i64 0]) ∧ Hid (l'.map (·.1) = l.map (·.1)) ∧ RDk w' w.heap.size (.slice p l'.length c) l' ∧ Below w.heap.size w w' := by
  have hval := hR.val
  obtain ⟨p, c, rfl, hcc1, hcc2⟩ := hval
  have HO := Lib.hid (fun w' (hb : Below w.heap.size w w') => dopen_ok _ l w' (hR.later hb) hD)
  have hn40 := hD.len
  rw [List.length_map] at hn40
  obtain ⟨fs, hfs⟩ : ∃ fs, fs = l.map (·.1) := ⟨_, rfl⟩
  rw [← hfs] at hi HO
  have HI := Lib.hid hi
  have hfl : fs.length = l.length := by rw [hfs, List.length_map]
  have HFL := Lib.hid hfl
  have HFS := Lib.hid hfs
  clear hR hD hi hfs hfl
  obtain ⟨g1, g2, g5, g6⟩ := hto
  have hq1 : ¬ (20 : Int) < (tn.size : Int) := by omega
  have hq6 : ¬ 20 < tn.size := by omega
  obtain ⟨b1, B1, z1⟩ := boxed0 w [.slice p l.length c] 61
  have hs1 : (w.alloc (.cells #[.slice p l.length c] 61)).heap.size = w.heap.size + 1 := by simp
  obtain ⟨b2, B2, z2⟩ := boxed0 (w.alloc (.cells #[.slice p l.length c] 61)) [.string tn] 9
  have hs2 : ((w.alloc (.cells #[.slice p l.length c] 61)).alloc (.cells #[.string tn] 9)).heap.size = w.heap.size + 1 + 1 := by simp
  obtain ⟨b3, B3, z3⟩ := boxed0 ((w.alloc (.cells #[.slice p l.length c] 61)).alloc (.cells #[.string tn] 9)) [.slice none 0 0] 61
  have X0 := (B1.next b2).next b3
  have N0 := B2.next b3
  have hx0 := X0.one
  have hbw := (b1.trans (b2.mono (by omega))).trans (b3.mono (by omega))
  rw [hs1] at N0
  rw [hs2] at B3 z3
  clear b1 b2 b3 B1 B2 z1 z2 hs1 hs2
  go_enter Tryd.func49, Tryd.ntmps49
  go_wp2_with fail
  refine (HO.out _ hbw).mono ?_; rintro e w1 ⟨h, p1, c1, l1, rfl, hl1, hh1, hh2, X1, O1, hb1⟩
  have hw1 := hbw.trans (hb1.mono hbw.size)
  have N1 := N0.next hb1
  have Y4 := B3.next hb1
  have hl1len : l1.length = l.length := by rw [← HFL.out, ← hl1.out, List.length_map]
  have hL1 := Lib.hid hl1.out
  clear hx0 X0 N0 B3 hbw hb1 hl1
  generalize hW0 : (((w.alloc (.cells #[.slice p l.length c] 61)).alloc (.cells #[.string tn] 9)).alloc (.cells #[.slice none 0 0] 61)) = W0 at *
  have hws : w.heap.size + 1 + 1 < h := by omega
  clear hW0
  have hn1 := N1.one
  have hil : ixF (l1.map (·.1)) nm < l1.length := by rw [hL1.out, hl1len]; exact HI.out
  obtain ⟨g, rfl, _, hc11, hc12⟩ := own_ptr O1.outer (by omega)
  have HF := Lib.hid (find_hit h nm g 0 c1 l1 w1 X1 (O1.rd.mono (Nat.zero_le _)) (by omega) hil)
  have HO1 := Lib.hid O1
  have hbe : (nm.toList == tn.toList) = true := by simp [heq]
  clear hil O1 hl1len heq
  go_wp2_with fail
  refine HF.out.mono ?_; rintro e w2 ⟨rfl, hb2⟩
  have hx2 := (X1.next hb2).one
  have hn2 := (N1.next hb2).one
  have Y5 := Y4.next hb2
  have HM2 := Lib.hid (HO1.out.later hb2).mix
  have hw2 := hw1.trans (hb2.mono hw1.size)
  obtain ⟨yt, hyt⟩ := Y5
  have hyf : w2.frozen? ⟨w.heap.size + 1 + 1, 0, none⟩ = false := by simp [World.frozen?, hyt]
  have hyc : w2.cell? ⟨w.heap.size + 1 + 1, 0, none⟩ = some (.slice none 0 0) := by simp [World.cell?, hyt]
  go_wp2_with fail
  refine bodyPost_ret (v := .tuple #[.agg #[.slice (some ⟨g, 0, none⟩) l1.length c1], .int .i64 0]) ?_ rfl ⟨some ⟨g, 0, none⟩, c1, l1, rfl, Lib.hid (by rw [hL1.out, HFS.out]), ?_, ?_⟩
  · rw [results_cell_tmp rfl]
    go_simp
  · refine RDk.mono (B := h + 1) ?_ (by omega)
    exact (HM2.out.setCell (by show w.heap.size + 1 + 1 < h + 1; omega) _).rd
  · exact hw2.setCell (by show w.heap.size ≤ w.heap.size + 1 + 1; omega) _
set_option maxHeartbeats 4000000 in
set_option maxRecDepth 100000 in
theorem rename_hit (nm : ByteArray) (v : Value) (l : List (Fl × Value)) (tn : ByteArray) (w : World) (hR : RDk w 0 v l) (hD : DkOk (l.map (·.1))) (hto : NmOk tn) (hi : ixF (l.map (·.1)) nm < l.length) (hne : nm.toList ≠ tn.toList) :
    Calls Tryd.prog 49 #[.agg #[v], .string nm, .string tn] w fun e w' => ∃ p c l', e = .returned (.tuple #[.agg #[.slice p l'.length c], .int .i64 0]) ∧ Hid (l'.map (·.1) = reF (l.map (·.1)) nm tn) ∧ RDk w' w.heap.size (.slice p l'.length c) l' ∧ Below w.heap.size w w' := by
  have hval := hR.val
  obtain ⟨p, c, rfl, hcc1, hcc2⟩ := hval
  have HO := Lib.hid (fun w' (hb : Below w.heap.size w w') => dopen_ok _ l w' (hR.later hb) hD)
  have hn40 := hD.len
  rw [List.length_map] at hn40
  obtain ⟨fs, hfs⟩ : ∃ fs, fs = l.map (·.1) := ⟨_, rfl⟩
  rw [← hfs] at hi HO
  have HI := Lib.hid hi
  have hfl : fs.length = l.length := by rw [hfs, List.length_map]
  have HFL := Lib.hid hfl
  have HFS := Lib.hid hfs
  have HDO := Lib.hid hD.one
  clear hR hD hi hfs hfl
  obtain ⟨g1, g2, g5, g6⟩ := hto
  have hq1 : ¬ (20 : Int) < (tn.size : Int) := by omega
  have hq6 : ¬ 20 < tn.size := by omega
  obtain ⟨b1, B1, z1⟩ := boxed0 w [.slice p l.length c] 61
  have hs1 : (w.alloc (.cells #[.slice p l.length c] 61)).heap.size = w.heap.size + 1 := by simp
  obtain ⟨b2, B2, z2⟩ := boxed0 (w.alloc (.cells #[.slice p l.length c] 61)) [.string tn] 9
  have hs2 : ((w.alloc (.cells #[.slice p l.length c] 61)).alloc (.cells #[.string tn] 9)).heap.size = w.heap.size + 1 + 1 := by simp
  obtain ⟨b3, B3, z3⟩ := boxed0 ((w.alloc (.cells #[.slice p l.length c] 61)).alloc (.cells #[.string tn] 9)) [.slice none 0 0] 61
  have X0 := (B1.next b2).next b3
  have N0 := B2.next b3
  have hx0 := X0.one
  have hbw := (b1.trans (b2.mono (by omega))).trans (b3.mono (by omega))
  rw [hs1] at N0
  rw [hs2] at B3 z3
  clear b1 b2 b3 B1 B2 z1 z2 hs1 hs2
  go_enter Tryd.func49, Tryd.ntmps49
  go_wp2_with fail
  refine (HO.out _ hbw).mono ?_; rintro e w1 ⟨h, p1, c1, l1, rfl, hl1, hh1, hh2, X1, O1, hb1⟩
  have hw1 := hbw.trans (hb1.mono hbw.size)
  have N1 := N0.next hb1
  have Y4 := B3.next hb1
  have hl1len : l1.length = l.length := by rw [← HFL.out, ← hl1.out, List.length_map]
  have hL1 := Lib.hid hl1.out
  clear hx0 X0 N0 B3 hbw hb1 hl1
  generalize hW0 : (((w.alloc (.cells #[.slice p l.length c] 61)).alloc (.cells #[.string tn] 9)).alloc (.cells #[.slice none 0 0] 61)) = W0 at *
  have hws : w.heap.size + 1 + 1 < h := by omega
  clear hW0
  have hn1 := N1.one
  have hil : ixF (l1.map (·.1)) nm < l1.length := by rw [hL1.out, hl1len]; exact HI.out
  obtain ⟨g, rfl, _, hc11, hc12⟩ := own_ptr O1.outer (by omega)
  have HF := Lib.hid (find_hit h nm g 0 c1 l1 w1 X1 (O1.rd.mono (Nat.zero_le _)) (by omega) hil)
  have hgl := O1.outer.lt g rfl
  have hgh : h + 1 ≤ g := hgl.1
  have hpw : (l1.map (·.1)).Pairwise (fun a b => a.nm.toList ≠ b.nm.toList) := by rw [hL1.out, HFS.out]; exact HDO.out
  have HDL := Lib.hid (fun w' (hn : Bx w' (w.heap.size + 1) [.string tn]) (hO : MixDk w' (h + 1) (.slice (some ⟨g, 0, none⟩) l1.length c1) l1) => del_any_ren tn (w.heap.size + 1) (h + 1) g c1 l1 w' hn (by omega) hO (by omega) (by omega) hpw)
  have HO1 := Lib.hid O1
  have hbe : (nm.toList == tn.toList) = false := by simp [hne]
  have HNE := Lib.hid hne
  have HIL := Lib.hid (show ixF fs nm < fs.length by rw [HFL.out]; exact HI.out)
  have hl140 : l1.length ≤ 40 := by omega
  clear hil O1 hl1len hne hpw
  generalize ixF (l1.map (·.1)) nm = ix at *
  go_wp2_with fail
  refine HF.out.mono ?_; rintro e w2 ⟨rfl, hb2⟩
  have X2 := X1.next hb2
  have N2 := N1.next hb2
  have Y5 := Y4.next hb2
  have hx2 := X2.one
  have hn2 := N2.one
  have hw2 := hw1.trans (hb2.mono hw1.size)
  have HD2 := Lib.hid (HDL.out w2 N2 (HO1.out.later hb2).mix)
  go_wp2_with fail
  refine HD2.out.mono ?_; rintro e w3 ⟨l3, rfl, hl3, hm3, hl3len, hg3⟩
  have X3 := X2.grown hg3 (fun e => by cases e; omega)
  have N3 := N2.grown hg3 (fun e => by cases e; omega)
  have Y6 := Y5.grown hg3 (fun e => by cases e; omega)
  have hw3 := hw2.grown hg3 hw2.size (fun j e => by cases e; omega)
  obtain ⟨xt, hxt⟩ := X3
  have hxf : w3.frozen? ⟨h, 0, none⟩ = false := by simp [World.frozen?, hxt]
  have hxc : w3.cell? ⟨h, 0, none⟩ = some (.slice (some ⟨g, 0, none⟩) l1.length c1) := by simp [World.cell?, hxt]
  have hl3b : l3.length ≤ 40 := by omega
  have HL3 := Lib.hid hl3len
  clear hl3len X2 N2 Y5 hb2 hx2 hn2
  go_upto_region 10 with fail
  have X4 : Bx (w3.setCell ⟨h, 0, none⟩ (.slice (some ⟨g, 0, none⟩) l3.length c1)) h [.slice (some ⟨g, 0, none⟩) l3.length c1] := (show Bx w3 h [.slice (some ⟨g, 0, none⟩) l1.length c1] from ⟨xt, hxt⟩).setc 0 _
  have N4 := bx_oth N3 (a := ⟨h, 0, none⟩) (by show w.heap.size + 1 ≠ h; omega) (.slice (some ⟨g, 0, none⟩) l3.length c1)
  have Y7 := bx_oth Y6 (a := ⟨h, 0, none⟩) (by show w.heap.size + 1 + 1 ≠ h; omega) (.slice (some ⟨g, 0, none⟩) l3.length c1)
  have M4 := hm3.setCell (a := ⟨h, 0, none⟩) (by show h < h + 1; omega) (.slice (some ⟨g, 0, none⟩) l3.length c1)
  have hw4 : Below w.heap.size w (w3.setCell ⟨h, 0, none⟩ (.slice (some ⟨g, 0, none⟩) l3.length c1)) := hw3.setCell (by show w.heap.size ≤ h; omega) _
  clear hxt hxf hxc N3 Y6 hm3 hw3 hg3
  generalize (w3.setCell ⟨h, 0, none⟩ (.slice (some ⟨g, 0, none⟩) l3.length c1)) = w4 at *
  have hrm := rmF_ix (fs := fs) (a := nm) (b := tn) HIL.out HNE.out
  have hi3 : ixF (l3.map (·.1)) nm < l3.length := by
    rw [hl3.out, hL1.out]
    have e : l3.length = (rmF fs tn).length := by rw [← hL1.out, ← hl3.out, List.length_map]
    rw [e]; exact hrm
  have HREF := Lib.hid (show (l3.map (·.1)).set (ixF (l3.map (·.1)) nm) { l3[ixF (l3.map (·.1)) nm].1 with nm := tn } = reF (l.map (·.1)) nm tn from by
    unfold reF
    rw [if_neg HNE.out]
    simp only
    rw [dif_pos (by rw [← HFS.out]; exact hrm)]
    simp only [← HFS.out, ← hL1.out, ← hl3.out, List.getElem_map])
  have HFF := Lib.hid (fun w' (hX : Bx w' h [.slice (some ⟨g, 0, none⟩) l3.length c1]) (hO : RDk w' 0 (.slice (some ⟨g, 0, none⟩) l3.length c1) l3) => find_hit h nm g 0 c1 l3 w' hX hO hl3b hi3)
  have HI3 := Lib.hid hi3
  have HM4 := Lib.hid M4
  have HX4 := Lib.hid X4
  have HN4 := Lib.hid N4
  have HY7 := Lib.hid Y7
  have hn4 := N4.one
  clear hrm M4 X4 N4 Y7
  generalize ixF (l3.map (·.1)) nm = i3 at *
  have HS5 := Lib.hid (fun (w5 : World) (hb5 : Below w4.heap.size w4 w5) => (show w5.cell? ⟨w.heap.size + 1, 0, none⟩ = some (.string tn) ∧ (w5.cell? ⟨g, i3 * 3, none⟩ = some (.string l3[i3].1.nm) ∧ w5.frozen? ⟨g, i3 * 3, none⟩ = false) from ⟨(HN4.out.next hb5).one, by
    obtain ⟨_, _, hpe, hc0, _⟩ := ((HM4.out.later hb5).rd).get hi3
    cases hpe
    rw [Nat.zero_add] at hc0
    exact ⟨hc0, (HM4.out.later hb5).outer.frozenAt (i3 * 3)⟩⟩))
  have hgn1 : ¬ g = w.heap.size + 1 := by omega
  have hgn2 : ¬ w.heap.size + 1 = g := by omega
  go_region_held3 (fun w' => w'.cell? ⟨w.heap.size + 1, 0, none⟩ = some (Value.string tn)) (first | (exact hk0) | go_keep)
    (first
      | (go_at_call 65; refine (HFF.out _ (show Bx w4.drew h _ from HX4.out) ((HM4.out.later (Below.refl _ w4).drew).rd.mono (Nat.zero_le _))).mono ?_; rintro e w5 ⟨rfl, hb5'⟩; have hb5 : Below w4.heap.size w4 w5 := (Below.refl _ w4).drew.trans hb5'; obtain ⟨hk0, hk1, hk2⟩ := HS5.out w5 hb5))
  have hX5 := bx_oth (HX4.out.next hb5) (a := ⟨g, i3 * 3, none⟩) (by show h ≠ g; omega) (.string tn)
  have hY5 := bx_oth (HY7.out.next hb5) (a := ⟨g, i3 * 3, none⟩) (by show w.heap.size + 1 + 1 ≠ g; omega) (.string tn)
  have hM5 := HM4.out.later hb5
  obtain ⟨_, _, hpe, _, _, _, hdv⟩ := hM5.rd.get hi3
  have hap := hM5.ap _ (List.getElem_mem hi3)
  have hM6 := hM5.put (i := i3) (j := 0) (u := .string tn) (v' := l3[i3].2) (f' := { l3[i3].1 with nm := tn }) hi3 (by decide) rfl hdv (fun e => hap _ e rfl)
  rw [Nat.add_zero] at hM6
  have hw5 : Below w.heap.size w (w5.setCell ⟨g, i3 * 3, none⟩ (.string tn)) := (hw4.trans (hb5.mono hw4.size)).setCell (by show w.heap.size ≤ g; omega) _
  have hlen : (l3.set i3 ({ l3[i3].1 with nm := tn }, l3[i3].2)).length = l3.length := by rw [List.length_set]
  have HLEN := Lib.hid hlen
  have HM6 := Lib.hid hM6
  have HMP := Lib.hid (show (l3.set i3 ({ l3[i3].1 with nm := tn }, l3[i3].2)).map (·.1) = reF (l.map (·.1)) nm tn from by rw [← HREF.out, List.map_set]; rfl)
  have hxx := hX5.one
  obtain ⟨yt, hyt⟩ := hY5
  have hyf : (w5.setCell ⟨g, i3 * 3, none⟩ (.string tn)).frozen? ⟨w.heap.size + 1 + 1, 0, none⟩ = false := by simp [World.frozen?, hyt]
  have hyc : (w5.setCell ⟨g, i3 * 3, none⟩ (.string tn)).cell? ⟨w.heap.size + 1 + 1, 0, none⟩ = some (.slice none 0 0) := by simp [World.cell?, hyt]
  clear hM5 hpe hdv hap hM6 hlen hX5 hyt hk0 hk1 hk2
  go_wp2_with fail
  refine bodyPost_ret (v := .tuple #[.agg #[.slice (some ⟨g, 0, none⟩) l3.length c1], .int .i64 0]) ?_ rfl ⟨some ⟨g, 0, none⟩, c1, _, by rw [HLEN.out], HMP, ?_, ?_⟩
  · rw [results_cell_tmp rfl]
    go_simp
  · rw [HLEN.out]
    refine RDk.mono (B := h + 1) ?_ (by omega)
    exact (HM6.out.setCell (by show w.heap.size + 1 + 1 < h + 1; omega) _).rd
  · exact hw5.setCell (by show w.heap.size ≤ w.heap.size + 1 + 1; omega) _
end Go.Proofs.YtmdbcknlipahgaaDoor
