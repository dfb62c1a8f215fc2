/- The walk of disk.Remove. -/
import Derived.Test.YtmadpjmlcooinaaDel2
import Derived.Test.YtmadpjmlcooinaaDSync
namespace Go.Proofs.Ytmadpjmlcooinaa
open Go.RowKit
theorem map_erase (l : List (Fl × Value)) (i : Nat) : (l.eraseIdx i).map (·.1) = (l.map (·.1)).eraseIdx i := by
  induction l generalizing i with
  | nil => rfl
  | cons a l ih => cases i with
    | zero => rfl
    | succ i => simp [ih]
theorem after_ix {fs : List Fl} {nm : ByteArray} {j : Nat} (h : fs.Pairwise (fun a b => a.nm.toList ≠ b.nm.toList)) (hj : j < fs.length) (hlt : ixF fs nm < j) : fs[j].nm.toList ≠ nm.toList := fun e => by
  have h1 := List.pairwise_iff_getElem.1 h (ixF fs nm) j (by omega) hj hlt
  exact h1 (by rw [ixF_at (by omega), e])
theorem rmF_erase {fs : List Fl} {nm : ByteArray} (h : fs.Pairwise (fun a b => a.nm.toList ≠ b.nm.toList)) (hi : ixF fs nm < fs.length) : rmF fs nm = fs.eraseIdx (ixF fs nm) := by
  induction fs with
  | nil => simp at hi
  | cons f l ih =>
    rw [List.pairwise_cons] at h
    unfold rmF ixF
    by_cases hf : f.nm.toList = nm.toList
    · rw [if_pos hf, List.filter_cons_of_neg (by simp [hf]), List.eraseIdx_cons_zero]
      exact List.filter_eq_self.2 (fun x hx => by have := h.1 x hx; rw [hf] at this; simpa using fun e => this e.symm)
    · rw [if_neg hf, List.filter_cons_of_pos (by simp [hf]), List.eraseIdx_cons_succ]
      congr 1
      refine ih h.2 ?_
      simpa [ixF, if_neg hf] using hi
set_option maxHeartbeats 4000000 in
set_option maxRecDepth 100000 in
theorem remove_miss (nm : ByteArray) (v : Value) (l : List (Fl × Value)) (w : World) (hR : RDk w 0 v l) (hD : DkOk (l.map (·.1))) (hi : ixF (l.map (·.1)) nm = l.length) :
    Calls Try.prog 43 #[.agg #[v], .string nm] w fun e w' => e = .returned (.tuple #[.agg #[.slice none 0 0], .int .i64 7]) ∧ Below w.heap.size w w' := by
  have hval := hR.val
  obtain ⟨p, c, rfl, hcc1, hcc2⟩ := hval
  have HO := Lib.hid (fun w' (hb : Below w.heap.size w w') => dopen_ok _ l w' (hR.later hb) hD)
  have hn40 := hD.len
  rw [List.length_map] at hn40
  obtain ⟨fs, hfs⟩ : ∃ fs, fs = l.map (·.1) := ⟨_, rfl⟩
  rw [← hfs] at hi HO
  have HI := Lib.hid hi
  have hfl : fs.length = l.length := by rw [hfs, List.length_map]
  have HFL := Lib.hid hfl
  have HFS := Lib.hid hfs
  clear hR hD hi hfs hfl
  obtain ⟨b1, B1, z1⟩ := boxed0 w [.slice p l.length c] 75
  have hs1 : (w.alloc (.cells #[.slice p l.length c] 75)).heap.size = w.heap.size + 1 := by simp
  obtain ⟨b2, B2, z2⟩ := boxed0 (w.alloc (.cells #[.slice p l.length c] 75)) [.string nm] 9
  have hs2 : ((w.alloc (.cells #[.slice p l.length c] 75)).alloc (.cells #[.string nm] 9)).heap.size = w.heap.size + 1 + 1 := by simp
  obtain ⟨b3, B3, z3⟩ := boxed0 ((w.alloc (.cells #[.slice p l.length c] 75)).alloc (.cells #[.string nm] 9)) [.slice none 0 0] 75
  have X0 := (B1.next b2).next b3
  have N0 := B2.next b3
  have hx0 := X0.one
  have hbw := (b1.trans (b2.mono (by omega))).trans (b3.mono (by omega))
  rw [hs1] at N0
  rw [hs2] at B3 z3
  clear b1 b2 b3 B1 B2 z1 z2 hs1 hs2
  go_enter Try.func43, Try.ntmps43
  go_wp2_with fail
  refine (HO.out _ hbw).mono ?_; rintro e w1 ⟨h, p1, c1, l1, rfl, hl1, hh1, hh2, X1, O1, hb1⟩
  have hw1 := hbw.trans (hb1.mono hbw.size)
  have N1 := N0.next hb1
  have Y4 := B3.next hb1
  have hl1len : l1.length = l.length := by rw [← HFL.out, ← hl1.out, List.length_map]
  have hL1 := Lib.hid hl1.out
  clear hx0 X0 N0 B3 hbw hb1 hl1
  generalize hW0 : (((w.alloc (.cells #[.slice p l.length c] 75)).alloc (.cells #[.string nm] 9)).alloc (.cells #[.slice none 0 0] 75)) = W0 at *
  have hws : w.heap.size + 1 + 1 < h := by omega
  clear hW0
  have hn1 := N1.one
  have hil : ixF (l1.map (·.1)) nm = l1.length := by rw [hL1.out, hl1len]; exact HI.out
  have HF := Lib.hid (find_miss h nm p1 c1 l1 w1 X1 (O1.rd.mono (Nat.zero_le _)) (by omega) hil)
  clear hil X1 O1 hl1len
  go_wp2_with fail
  refine HF.out.mono ?_; rintro e w2 ⟨rfl, hb2⟩
  have Y5 := Y4.next hb2
  have hw2 := hw1.trans (hb2.mono hw1.size)
  obtain ⟨yt, hyt⟩ := Y5
  have hyf : w2.frozen? ⟨w.heap.size + 1 + 1, 0, none⟩ = false := by simp [World.frozen?, hyt]
  have hyc : w2.cell? ⟨w.heap.size + 1 + 1, 0, none⟩ = some (.slice none 0 0) := by simp [World.cell?, hyt]
  go_wp2_with fail
  refine bodyPost_ret (v := .tuple #[.agg #[.slice none 0 0], .int .i64 7]) ?_ rfl ⟨rfl, ?_⟩
  · rw [results_cell_tmp rfl]
    go_simp
  · exact hw2.setCell (by show w.heap.size ≤ w.heap.size + 1 + 1; omega) _
set_option maxHeartbeats 4000000 in
set_option maxRecDepth 100000 in
theorem remove_hit (nm : ByteArray) (v : Value) (l : List (Fl × Value)) (w : World) (hR : RDk w 0 v l) (hD : DkOk (l.map (·.1))) (hi : ixF (l.map (·.1)) nm < l.length) :
    Calls Try.prog 43 #[.agg #[v], .string nm] w fun e w' => ∃ p c l', e = .returned (.tuple #[.agg #[.slice p l'.length c], .int .i64 0]) ∧ Hid (l'.map (·.1) = rmF (l.map (·.1)) nm) ∧ RDk w' w.heap.size (.slice p l'.length c) l' ∧ Below w.heap.size w w' := by
  have hval := hR.val
  obtain ⟨p, c, rfl, hcc1, hcc2⟩ := hval
  have HO := Lib.hid (fun w' (hb : Below w.heap.size w w') => dopen_ok _ l w' (hR.later hb) hD)
  have hn40 := hD.len
  rw [List.length_map] at hn40
  obtain ⟨fs, hfs⟩ : ∃ fs, fs = l.map (·.1) := ⟨_, rfl⟩
  rw [← hfs] at hi HO
  have HI := Lib.hid hi
  have hfl : fs.length = l.length := by rw [hfs, List.length_map]
  have HFL := Lib.hid hfl
  have HFS := Lib.hid hfs
  have HDO := Lib.hid hD.one
  clear hR hD hi hfs hfl
  have hRM := Lib.hid (show rmF fs nm = fs.eraseIdx (ixF fs nm) from by rw [HFS.out]; exact rmF_erase HDO.out (by rw [List.length_map]; rw [← HFS.out]; exact HI.out))
  obtain ⟨b1, B1, z1⟩ := boxed0 w [.slice p l.length c] 75
  have hs1 : (w.alloc (.cells #[.slice p l.length c] 75)).heap.size = w.heap.size + 1 := by simp
  obtain ⟨b2, B2, z2⟩ := boxed0 (w.alloc (.cells #[.slice p l.length c] 75)) [.string nm] 9
  have hs2 : ((w.alloc (.cells #[.slice p l.length c] 75)).alloc (.cells #[.string nm] 9)).heap.size = w.heap.size + 1 + 1 := by simp
  obtain ⟨b3, B3, z3⟩ := boxed0 ((w.alloc (.cells #[.slice p l.length c] 75)).alloc (.cells #[.string nm] 9)) [.slice none 0 0] 75
  have X0 := (B1.next b2).next b3
  have N0 := B2.next b3
  have hx0 := X0.one
  have hbw := (b1.trans (b2.mono (by omega))).trans (b3.mono (by omega))
  rw [hs1] at N0
  rw [hs2] at B3 z3
  clear b1 b2 b3 B1 B2 z1 z2 hs1 hs2
  go_enter Try.func43, Try.ntmps43
  go_wp2_with fail
  refine (HO.out _ hbw).mono ?_; rintro e w1 ⟨h, p1, c1, l1, rfl, hl1, hh1, hh2, X1, O1, hb1⟩
  have hw1 := hbw.trans (hb1.mono hbw.size)
  have N1 := N0.next hb1
  have Y4 := B3.next hb1
  have hl1len : l1.length = l.length := by rw [← HFL.out, ← hl1.out, List.length_map]
  have hL1 := Lib.hid hl1.out
  clear hx0 X0 N0 B3 hbw hb1 hl1
  generalize hW0 : (((w.alloc (.cells #[.slice p l.length c] 75)).alloc (.cells #[.string nm] 9)).alloc (.cells #[.slice none 0 0] 75)) = W0 at *
  have hws : w.heap.size + 1 + 1 < h := by omega
  clear hW0
  have hn1 := N1.one
  obtain ⟨m, hm⟩ : ∃ m, l1.length = m + 1 := ⟨l1.length - 1, by have := HI.out; omega⟩
  have hil : ixF (l1.map (·.1)) nm < l1.length := by rw [hL1.out, hl1len]; exact HI.out
  obtain ⟨g, rfl, _, hc11, hc12⟩ := own_ptr O1.outer (by omega)
  have HF := Lib.hid (find_hit h nm g 0 c1 l1 w1 X1 (O1.rd.mono (Nat.zero_le _)) (by omega) hil)
  have hone1 : ∀ j, (hj : j < l1.length) → ixF (l1.map (·.1)) nm < j → l1[j].1.nm.toList ≠ nm.toList := by
    intro j hj hlt
    have h1 := HDO.out
    rw [← HFS.out, ← hL1.out] at h1
    have h2 := after_ix h1 (j := j) (by rw [List.length_map]; exact hj) hlt
    rwa [List.getElem_map] at h2
  have HDL := Lib.hid (fun w' (hn : Bx w' (w.heap.size + 1) [.string nm]) (hO : MixDk w' (h + 1) (.slice (some ⟨g, 0, none⟩) (m + 1) c1) l1) => del_hit_rem nm (w.heap.size + 1) (h + 1) g c1 m l1 w' hn (by omega) hO hm (by omega) hil hone1)
  have hgl := O1.outer.lt g rfl
  have hgh : h + 1 ≤ g := hgl.1
  have HIX := Lib.hid (show ixF (l1.map (·.1)) nm = ixF fs nm by rw [hL1.out])
  have HO1 := Lib.hid O1
  have HM := Lib.hid hm
  have HL1L := Lib.hid hl1len
  clear hone1 O1 hm hl1len
  generalize ixF (l1.map (·.1)) nm = ix at *
  go_wp2_with fail
  refine HF.out.mono ?_; rintro e w2 ⟨rfl, hb2⟩
  have X2 := X1.next hb2
  have N2 := N1.next hb2
  have Y5 := Y4.next hb2
  have O2 := (HO1.out.later hb2).mix
  have hw2 := hw1.trans (hb2.mono hw1.size)
  have hx2 := X2.one
  have hd := HDL.out w2 N2 (by rw [← HM.out]; exact O2)
  have HD2 := Lib.hid hd
  rw [HM.out] at hx2
  clear hd
  go_wp2_with fail
  refine HD2.out.mono ?_; rintro e w3 ⟨rfl, ho3, hg3⟩
  have X3 := X2.grown hg3 (fun e => by cases e; omega)
  have Y6 := Y5.grown hg3 (fun e => by cases e; omega)
  have hw3 := hw2.grown hg3 hw2.size (fun j e => by cases e; omega)
  obtain ⟨xt, hxt⟩ := X3
  have hxf : w3.frozen? ⟨h, 0, none⟩ = false := by simp [World.frozen?, hxt]
  have hxc : w3.cell? ⟨h, 0, none⟩ = some (.slice (some ⟨g, 0, none⟩) l1.length c1) := by simp [World.cell?, hxt]
  obtain ⟨yt, hyt⟩ := Y6
  have hyf : w3.frozen? ⟨w.heap.size + 1 + 1, 0, none⟩ = false := by simp [World.frozen?, hyt]
  have hyc : w3.cell? ⟨w.heap.size + 1 + 1, 0, none⟩ = some (.slice none 0 0) := by simp [World.cell?, hyt]
  have hne1 : ¬ h = w.heap.size + 1 + 1 := by omega
  have hne2 : ¬ w.heap.size + 1 + 1 = h := by omega
  have hel : (l1.eraseIdx ix).length = m := by rw [List.length_eraseIdx_of_lt (by have := HM.out; omega), HM.out]; rfl
  have hmix : MixDk w3 (h + 1) (.slice (some ⟨g, 0, none⟩) (l1.eraseIdx ix).length c1) (l1.eraseIdx ix) := ⟨by rw [hel]; exact ho3, fun x hx => (O2.inn x (List.mem_of_mem_eraseIdx hx)).grown hg3 (fun k hk e => by cases e; exact O2.ap x (List.mem_of_mem_eraseIdx hx) g hk rfl), fun x hx k hk e => O2.ap x (List.mem_of_mem_eraseIdx hx) k hk (by cases e; rfl)⟩
  have HMIX := Lib.hid hmix
  have HEL := Lib.hid hel
  have HMP := Lib.hid (show (l1.eraseIdx ix).map (·.1) = rmF (l.map (·.1)) nm from by
    have h1 := hRM.out
    rw [← HIX.out, ← hL1.out] at h1
    rw [← HFS.out, ← hL1.out, h1]
    exact map_erase _ _)
  have HW3 := Lib.hid hw3
  clear hmix hel ho3 hg3 hxt hyt O2 hw3 X2 N2 Y5
  go_wp2_with fail
  refine bodyPost_ret (v := .tuple #[.agg #[.slice (some ⟨g, 0, none⟩) m c1], .int .i64 0]) ?_ rfl ⟨some ⟨g, 0, none⟩, c1, l1.eraseIdx ix, by rw [HEL.out], HMP, ?_, ?_⟩
  · rw [results_cell_tmp rfl]
    go_simp
  · refine RDk.mono (B := h + 1) ?_ (by omega)
    exact ((HMIX.out.setCell (by show h < h + 1; omega) _).setCell (by show w.heap.size + 1 + 1 < h + 1; omega) _).rd
  · exact (HW3.out.setCell (by show w.heap.size ≤ h; omega) _).setCell (by show w.heap.size ≤ w.heap.size + 1 + 1; omega) _
end Go.Proofs.Ytmadpjmlcooinaa
