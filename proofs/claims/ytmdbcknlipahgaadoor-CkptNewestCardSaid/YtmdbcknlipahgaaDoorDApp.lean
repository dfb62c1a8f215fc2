/- The walk of disk.Append. -/
import Derived.Test.YtmdbcknlipahgaaDoorDSync
import Derived.IntWalk
namespace Go.Proofs.YtmdbcknlipahgaaDoor
open Go.RowKit
set_option maxHeartbeats 4000000 in
set_option maxRecDepth 100000 in
theorem append_hit (nm : ByteArray) (v : Value) (l : List (Fl × Value)) (b : List Nat) (q : Option Addr) (d : Nat) (w : World) (hR : RDk w 0 v l) (hD : DkOk (l.map (·.1))) (hnm : NmOk nm) (hq : Sl w 1 (.slice q b.length d) b.length (bys b)) (hb30 : b.length ≤ 1000) (hi : ixF (l.map (·.1)) nm < l.length) (hsz : ∀ f ∈ l.map (·.1), f.dt.length ≤ 4000) :
    Calls Tryd.prog 47 #[.agg #[v], .string nm, .slice q b.length d] w fun e w' => ∃ p c l', e = .returned (.tuple #[.agg #[.slice p l'.length c], .int .i64 0]) ∧ Hid (l'.map (·.1) = apF (l.map (·.1)) nm b) ∧ RDk w' w.heap.size (.slice p l'.length c) l' ∧ Below w.heap.size w w' := by
  have hval := hR.val
  obtain ⟨p, c, rfl, hcc1, hcc2⟩ := hval
  have HO := Lib.hid (fun w' (hb : Below w.heap.size w w') => dopen_ok _ l w' (hR.later hb) hD)
  have hn40 := hD.len
  rw [List.length_map] at hn40
  obtain ⟨fs, hfs⟩ : ∃ fs, fs = l.map (·.1) := ⟨_, rfl⟩
  rw [← hfs] at hi HO
  have HI := Lib.hid hi
  have hfl : fs.length = l.length := by rw [hfs, List.length_map]
  have HFL := Lib.hid hfl
  have HFS := Lib.hid hfs
  clear hR hD hi hfs hfl
  have HQ := Lib.hid hq
  obtain ⟨hdd1, hdd2⟩ : b.length ≤ d ∧ d ≤ 9223372036854775807 := by
    obtain ⟨p', c', he, h1, h2, _⟩ := hq
    cases he
    exact ⟨h1, by unfold maxLen at h2; omega⟩
  clear hq
  obtain ⟨g1, g2, g5, g6⟩ := hnm
  have hq1 : ¬ (20 : Int) < (nm.size : Int) := by omega
  have hq6 : ¬ 20 < nm.size := by omega
  obtain ⟨b1, B1, z1⟩ := boxed0 w [.slice p l.length c] 61
  have hs1 : (w.alloc (.cells #[.slice p l.length c] 61)).heap.size = w.heap.size + 1 := by simp
  obtain ⟨b2, B2, z2⟩ := boxed0 (w.alloc (.cells #[.slice p l.length c] 61)) [.slice none 0 0] 61
  have X0 := B1.next b2
  have hx0 := X0.one
  have hbw := b1.trans (b2.mono (by omega))
  rw [hs1] at B2 z2
  clear b1 b2 B1 z1 hs1
  go_enter Tryd.func47, Tryd.ntmps47
  go_wp2_with fail
  refine (HO.out _ hbw).mono ?_; rintro e w1 ⟨h, p1, c1, l1, rfl, hl1, hh1, hh2, X1, O1, hb1⟩
  have hw1 := hbw.trans (hb1.mono hbw.size)
  have Y4 := B2.next hb1
  have hl1len : l1.length = l.length := by rw [← HFL.out, ← hl1.out, List.length_map]
  have hL1 := Lib.hid hl1.out
  clear hx0 X0 B2 hbw hb1 hl1
  generalize hW0 : (((w.alloc (.cells #[.slice p l.length c] 61)).alloc (.cells #[.slice none 0 0] 61))) = W0 at *
  have hws : w.heap.size + 1 < h := by omega
  clear hW0
  have hil : ixF (l1.map (·.1)) nm < l1.length := by rw [hL1.out, hl1len]; exact HI.out
  obtain ⟨g, rfl, _, hc11, hc12⟩ := own_ptr O1.outer (by omega)
  have HF := Lib.hid (find_hit h nm g 0 c1 l1 w1 X1 (O1.rd.mono (Nat.zero_le _)) (by omega) hil)
  have HIX := Lib.hid (show ixF (l1.map (·.1)) nm = ixF fs nm by rw [hL1.out])
  have HAF := Lib.hid (show (l1.map (·.1)).set (ixF (l1.map (·.1)) nm) { l1[ixF (l1.map (·.1)) nm].1 with dt := l1[ixF (l1.map (·.1)) nm].1.dt ++ b } = apF fs nm b from by
    have e1 : ixF fs nm < fs.length := by rw [HFL.out]; exact HI.out
    unfold apF
    rw [dif_pos e1]
    simp only [← hL1.out, List.getElem_map])
  have hszl : l1[ixF (l1.map (·.1)) nm].1.dt.length ≤ 4000 := by
    refine hsz _ ?_
    rw [← HFS.out, ← hL1.out]
    exact List.mem_map.2 ⟨_, List.getElem_mem hil, rfl⟩
  clear hsz
  generalize ixF (l1.map (·.1)) nm = ix at *
  go_wp2_with fail
  refine HF.out.mono ?_; rintro e w2 ⟨rfl, hb2⟩
  have X2 := X1.next hb2
  have Y5 := Y4.next hb2
  have O2 := O1.later hb2
  have hw2 := hw1.trans (hb2.mono hw1.size)
  have hgl := O2.outer.lt g rfl
  have hgh : h + 1 ≤ g := hgl.1
  have hgw2 : g < w2.heap.size := hgl.2
  obtain ⟨_, _, hpe, hc0, hc1, hc2, hdv⟩ := (O2.rd).get hil
  cases hpe
  obtain ⟨qv, dv, hqv, hdd3, hdd4⟩ := hdv.val
  have hown := O2.inn _ (List.getElem_mem hil)
  have hdc := dkC_at hil 1 _ rfl
  have HGR := Lib.hid (fun w7 v7 d' h1 h2 h3 => O2.appended (w7 := w7) (v7 := v7) (d' := d') hil h1 h2 h3)
  have HAP := Lib.hid (O2.ap _ (List.getElem_mem hil))
  have HMAP := Lib.hid (show ∀ d' v7, (l1.set ix ({ l1[ix].1 with dt := d' }, v7)).map (·.1) = (l1.map (·.1)).set ix { l1[ix].1 with dt := d' } from fun d' v7 => by rw [List.map_set])
  rw [hqv] at hc1 hown HGR HAP hdc
  rw [Nat.zero_add] at hc1
  have hx0 := X2.one
  have HX2 := Lib.hid X2
  have HY5 := Lib.hid Y5
  have HOUT := Lib.hid O2.outer
  have hdsz := hszl
  have HDC := Lib.hid hdc
  clear hdv hqv hc0 hc2 X2 Y5 O2 hdc hszl
  generalize l1[ix].1 = f at *
  obtain ⟨nm', dt, sy⟩ := f
  dsimp only at *
  have hw8 : IntKind.i64.wrap ((dt.length : Int) + (b.length : Int)) = (dt.length : Int) + (b.length : Int) := IntWalk.i64_in _ (by omega)
  have hq8 : ¬ (100000 : Int) < (dt.length : Int) + (b.length : Int) := by omega
  have hq9 : ¬ 100000 < dt.length + b.length := by omega
  have hne1 : ¬ g = h := by omega
  have hne2 : ¬ h = g := by omega
  have hne3 : ¬ g = w.heap.size + 1 := by omega
  have hne4 : ¬ w.heap.size + 1 = g := by omega
  have hix3 : ix * 3 + 1 < l1.length * 3 := by omega
  have HN1 := Lib.hid (own_far hown (show h < h + 1 from Nat.lt_succ_self h))
  have HN2 := Lib.hid (own_far hown (show w.heap.size + 1 < h + 1 by omega))
  have hmx : dt.length + b.length ≤ maxLen := by unfold maxLen; omega
  have hby : (dt.length + b.length) * 1 ≤ 140737488355328 := by omega
  have hbz : h + 1 ≤ w2.heap.size := by omega
  have hQ2 := HQ.out.later hw2
  have hb1o := bys_one b
  go_wp2_with (at_builtin; refine wp_app (w0 := w2) rfl (.tmp 71) (.tmp 72) _ rfl (h + 1) 5 rfl inf_u8b rfl (by decide) rfl hown rfl hQ2 hb1o hmx hby (Below.refl _ _) hbz ?_; intro p7 c7 w7 hown7 hb7 hs7 hg7 hnb7; have hX7 := HX2.out.grown hg7 HN1.out; have hY7 := HY5.out.grown hg7 HN2.out; have hO7 := own_grown HOUT.out hg7 (fun k hk e => HAP.out k e hk); have hfr7 := hO7.frozenAt (ix * 3 + 1); have hco7 := hO7.cellAt (ix * 3 + 1) hix3; rw [HDC.out] at hco7; have hx7 := hX7.one; obtain ⟨yt, hyt⟩ := hY7; have hyf : w7.frozen? ⟨w.heap.size + 1, 0, none⟩ = false := (by simp [World.frozen?, hyt]); have hyc : w7.cell? ⟨w.heap.size + 1, 0, none⟩ = some (.slice none 0 0) := (by simp [World.cell?, hyt]))
  have hmix := HGR.out w7 (.slice p7 (dt.length + b.length) c7) (dt ++ b) hg7 (by rw [List.length_append, show bys (dt ++ b) = bys dt ++ bys b by simp [bys]]; exact hown7) (by rcases hnb7 with hh | hh; exact .inl hh; exact .inr ⟨_, Nat.le_refl _, hh⟩)
  have hlen : (l1.set ix (({ nm := nm', dt := dt ++ b, sy := sy } : Fl), Value.slice p7 (dt.length + b.length) c7)).length = l1.length := by rw [List.length_set]
  refine bodyPost_ret (v := .tuple #[.agg #[.slice (some ⟨g, 0, none⟩) l1.length c1], .int .i64 0]) ?_ rfl ⟨some ⟨g, 0, none⟩, c1, _, by rw [hlen], Lib.hid ((HMAP.out (dt ++ b) _).trans (HAF.out.trans (by rw [HFS.out]))), ?_, ?_⟩
  · rw [results_cell_tmp rfl]
    go_simp
  · rw [hlen]
    refine RDk.mono (B := h + 1) ?_ (by omega)
    exact (hmix.setCell (by show w.heap.size + 1 < h + 1; omega) _).rd
  · refine Below.setCell (Below.setCell ?_ (by show w.heap.size ≤ g; omega) _) (by show w.heap.size ≤ w.heap.size + 1; omega) _
    exact hw2.trans (hb7.mono (by omega))
set_option maxHeartbeats 4000000 in
set_option maxRecDepth 100000 in
theorem append_miss (nm : ByteArray) (v : Value) (l : List (Fl × Value)) (b : List Nat) (q : Option Addr) (d : Nat) (w : World) (hR : RDk w 0 v l) (hD : DkOk (l.map (·.1))) (hnm : NmOk nm) (hq : Sl w 1 (.slice q b.length d) b.length (bys b)) (hb30 : b.length ≤ 1000) (hi : ixF (l.map (·.1)) nm = l.length) (hl39 : l.length ≤ 39) :
    Calls Tryd.prog 47 #[.agg #[v], .string nm, .slice q b.length d] w fun e w' => ∃ p c l', e = .returned (.tuple #[.agg #[.slice p l'.length c], .int .i64 0]) ∧ Hid (l'.map (·.1) = apF (l.map (·.1)) nm b) ∧ RDk w' w.heap.size (.slice p l'.length c) l' ∧ Below w.heap.size w w' := by
  have hval := hR.val
  obtain ⟨p, c, rfl, hcc1, hcc2⟩ := hval
  have HO := Lib.hid (fun w' (hb : Below w.heap.size w w') => dopen_ok _ l w' (hR.later hb) hD)
  have hn40 := hD.len
  rw [List.length_map] at hn40
  obtain ⟨fs, hfs⟩ : ∃ fs, fs = l.map (·.1) := ⟨_, rfl⟩
  rw [← hfs] at hi HO
  have HI := Lib.hid hi
  have hfl : fs.length = l.length := by rw [hfs, List.length_map]
  have HFL := Lib.hid hfl
  have HFS := Lib.hid hfs
  clear hR hD hi hfs hfl
  have HQ := Lib.hid hq
  obtain ⟨hdd1, hdd2⟩ : b.length ≤ d ∧ d ≤ 9223372036854775807 := by
    obtain ⟨p', c', he, h1, h2, _⟩ := hq
    cases he
    exact ⟨h1, by unfold maxLen at h2; omega⟩
  clear hq
  obtain ⟨g1, g2, g5, g6⟩ := hnm
  have hq1 : ¬ (20 : Int) < (nm.size : Int) := by omega
  have hq6 : ¬ 20 < nm.size := by omega
  obtain ⟨b1, B1, z1⟩ := boxed0 w [.slice p l.length c] 61
  have hs1 : (w.alloc (.cells #[.slice p l.length c] 61)).heap.size = w.heap.size + 1 := by simp
  obtain ⟨b2, B2, z2⟩ := boxed0 (w.alloc (.cells #[.slice p l.length c] 61)) [.slice none 0 0] 61
  have X0 := B1.next b2
  have hx0 := X0.one
  have hbw := b1.trans (b2.mono (by omega))
  rw [hs1] at B2 z2
  clear b1 b2 B1 z1 hs1
  go_enter Tryd.func47, Tryd.ntmps47
  go_wp2_with fail
  refine (HO.out _ hbw).mono ?_; rintro e w1 ⟨h, p1, c1, l1, rfl, hl1, hh1, hh2, X1, O1, hb1⟩
  have hw1 := hbw.trans (hb1.mono hbw.size)
  have Y4 := B2.next hb1
  have hl1len : l1.length = l.length := by rw [← HFL.out, ← hl1.out, List.length_map]
  have hL1 := Lib.hid hl1.out
  clear hx0 X0 B2 hbw hb1 hl1
  generalize hW0 : (((w.alloc (.cells #[.slice p l.length c] 61)).alloc (.cells #[.slice none 0 0] 61))) = W0 at *
  have hws : w.heap.size + 1 < h := by omega
  clear hW0
  have hil0 : ixF (l1.map (·.1)) nm = l1.length := by rw [hL1.out, hl1len]; exact HI.out
  have HF0 := Lib.hid (find_miss h nm p1 c1 l1 w1 X1 (O1.rd.mono (Nat.zero_le _)) (by omega) hil0)
  have HO1 := Lib.hid O1
  have hx1 := X1.one
  have HX1 := Lib.hid X1
  have HY4 := Lib.hid Y4
  clear O1 X1 Y4
  have hl1b : l1.length ≤ 39 := by omega
  have HIL0 := Lib.hid hil0
  clear hl1len hil0
  have hl40 : ¬ (l1.length : Int) = 40 := by omega
  have hl40' : ¬ l1.length = 40 := by omega
  go_wp2_with fail
  refine HF0.out.mono ?_; rintro e wq ⟨rfl, hbq⟩
  have hxq := (HX1.out.next hbq).one
  have HXq := Lib.hid (HX1.out.next hbq)
  have HYq := Lib.hid (HY4.out.next hbq)
  have HOq := Lib.hid (HO1.out.later hbq)
  have hwq := hw1.trans (hbq.mono hw1.size)
  have hqz := hbq.size
  have hOo := HOq.out.outer
  have hfo := own_far hOo (show h < h + 1 from Nat.lt_succ_self h)
  clear hx1 HX1 HY4 HO1 HF0
  go_wp2_with (at_builtin; refine wp_app1h (w0 := wq) rfl (.tmp 46) (.tmp 49) _ rfl (h + 1) 121 rfl inf_file rfl (by decide) rfl hOo (us := [.string nm, .slice none 0 0, .int .i64 0]) rfl rfl rfl (by simp [Value.oneCell']) (by unfold maxLen; omega) (by omega) (Below.refl _ _) (by omega) ?_; intro pz cz wz hownz hbz hsz hgz hnbz; have hXz := HXq.out.grown hgz hfo; obtain ⟨xt, hxt⟩ := hXz; have hxf : wz.frozen? ⟨h, 0, none⟩ = false := (by simp [World.frozen?, hxt]); have hxc : wz.cell? ⟨h, 0, none⟩ = some (.slice p1 l1.length c1) := (by simp [World.cell?, hxt]))
  have hpush := HOq.out.push (f := ⟨nm, [], 0⟩) (s := .slice none 0 0) hgz (World.ownsRow_nil _ _ _ _) (fun k hk => by cases hk) (fun x hx k hk e => by cases e) hownz hnbz
  have hl2 : (l1 ++ [((⟨nm, [], 0⟩ : Fl), Value.slice none 0 0)]).length = l1.length + 1 := by simp
  have hXz2 : Bx (wz.setCell ⟨h, 0, none⟩ (.slice pz (l1.length + 1) cz)) h [.slice pz (l1.length + 1) cz] := (HXq.out.grown hgz hfo).setc 0 _
  have hYz2 := bx_oth (HYq.out.grown hgz (own_far hOo (by omega))) (a := ⟨h, 0, none⟩) (by show w.heap.size + 1 ≠ h; omega) (.slice pz (l1.length + 1) cz)
  have hOz2 := hpush.setCell (a := ⟨h, 0, none⟩) (by show h < h + 1; omega) (.slice pz (l1.length + 1) cz)
  have hwz : Below w.heap.size w (wz.setCell ⟨h, 0, none⟩ (.slice pz (l1.length + 1) cz)) := (hwq.trans (hbz.mono (by omega))).setCell (by show w.heap.size ≤ h; omega) _
  have hsz2 : h + 1 ≤ (wz.setCell ⟨h, 0, none⟩ (.slice pz (l1.length + 1) cz)).heap.size := by simp; exact hsz
  have hixL : ixF ((l1 ++ [((⟨nm, [], 0⟩ : Fl), Value.slice none 0 0)]).map (·.1)) nm = l1.length := by
    rw [List.map_append]
    have e := ixF_snoc (l := l1.map (·.1)) (nm := nm) (f := ⟨nm, [], 0⟩) (by rw [List.length_map]; exact HIL0.out) rfl
    rw [List.length_map] at e
    exact e
  have HAF := Lib.hid (show ((l1 ++ [((⟨nm, [], 0⟩ : Fl), Value.slice none 0 0)]).map (·.1)).set l1.length { (⟨nm, [], 0⟩ : Fl) with dt := [] ++ b } = apF fs nm b from by
    have e1 : ¬ ixF fs nm < fs.length := by rw [HFL.out, HI.out]; omega
    unfold apF
    rw [dif_neg e1, List.map_append, hL1.out, ← show fs.length = l1.length by rw [← hL1.out, List.length_map], List.set_append_right _ _ (Nat.le_refl _)]
    simp)
  have hgetL : ∀ hh, ((l1 ++ [((⟨nm, [], 0⟩ : Fl), Value.slice none 0 0)])[l1.length]'hh) = (⟨nm, [], 0⟩, Value.slice none 0 0) := fun hh => by simp
  clear hpush hgz hownz hbz hnbz hxt hxf hxc hxq HXq HYq HOq hOo hfo hwq hqz hbq
  generalize hL2 : (l1 ++ [((⟨nm, [], 0⟩ : Fl), Value.slice none 0 0)]) = L2 at *
  generalize (wz.setCell ⟨h, 0, none⟩ (.slice pz (l1.length + 1) cz)) = wv at *
  rw [← hl2] at hXz2 hOz2
  have hil : l1.length < L2.length := by omega
  have hil2 : ixF (L2.map (·.1)) nm < L2.length := by rw [hixL]; exact hil
  obtain ⟨g, rfl, _, hc11, hc12⟩ := own_ptr hOz2.outer (by omega)
  have hFv := find_hit h nm g 0 cz L2 wv hXz2 (hOz2.rd.mono (Nat.zero_le _)) (by omega) hil2
  rw [hixL] at hFv
  have HF := Lib.hid hFv
  have hszl : (L2[l1.length]'hil).1.dt.length ≤ 4000 := by rw [hgetL hil]; simp
  have HAF2 := Lib.hid (show (L2.map (·.1)).set l1.length { L2[l1.length].1 with dt := L2[l1.length].1.dt ++ b } = apF fs nm b from by
    simp only [hgetL hil]
    exact HAF.out)
  clear HAF
  have HAF := HAF2
  clear HAF2
  clear hFv hL2 hixL hil2 hgetL hL1
  have hl40' : l1.length ≤ 39 := hl1b
  have HL2 := Lib.hid hl2
  have hl2b : L2.length ≤ 40 := by omega
  generalize l1.length = ix at *
  refine HF.out.mono ?_; rintro e w2 ⟨rfl, hb2⟩
  have X2 := hXz2.next hb2
  have Y5 := hYz2.next hb2
  have O2 := hOz2.later hb2
  have hw2 := hwz.trans (hb2.mono hwz.size)
  clear hXz2 hYz2 hOz2 hl2 hl40' hl40
  have hgl := O2.outer.lt g rfl
  have hgh : h + 1 ≤ g := hgl.1
  have hgw2 : g < w2.heap.size := hgl.2
  obtain ⟨_, _, hpe, hc0, hc1, hc2, hdv⟩ := (O2.rd).get hil
  cases hpe
  obtain ⟨qv, dv, hqv, hdd3, hdd4⟩ := hdv.val
  have hown := O2.inn _ (List.getElem_mem hil)
  have hdc := dkC_at hil 1 _ rfl
  have HGR := Lib.hid (fun w7 v7 d' h1 h2 h3 => O2.appended (w7 := w7) (v7 := v7) (d' := d') hil h1 h2 h3)
  have HAP := Lib.hid (O2.ap _ (List.getElem_mem hil))
  have HMAP := Lib.hid (show ∀ d' v7, (L2.set ix ({ L2[ix].1 with dt := d' }, v7)).map (·.1) = (L2.map (·.1)).set ix { L2[ix].1 with dt := d' } from fun d' v7 => by rw [List.map_set])
  rw [hqv] at hc1 hown HGR HAP hdc
  rw [Nat.zero_add] at hc1
  have hx0 := X2.one
  have HX2 := Lib.hid X2
  have HY5 := Lib.hid Y5
  have HOUT := Lib.hid O2.outer
  have hdsz := hszl
  have HDC := Lib.hid hdc
  clear hdv hqv hc0 hc2 X2 Y5 O2 hdc hszl
  generalize L2[ix].1 = f at *
  obtain ⟨nm', dt, sy⟩ := f
  dsimp only at *
  have hw8 : IntKind.i64.wrap ((dt.length : Int) + (b.length : Int)) = (dt.length : Int) + (b.length : Int) := IntWalk.i64_in _ (by omega)
  have hq8 : ¬ (100000 : Int) < (dt.length : Int) + (b.length : Int) := by omega
  have hq9 : ¬ 100000 < dt.length + b.length := by omega
  have hne1 : ¬ g = h := by omega
  have hne2 : ¬ h = g := by omega
  have hne3 : ¬ g = w.heap.size + 1 := by omega
  have hne4 : ¬ w.heap.size + 1 = g := by omega
  have hix3 : ix * 3 + 1 < L2.length * 3 := by omega
  have HN1 := Lib.hid (own_far hown (show h < h + 1 from Nat.lt_succ_self h))
  have HN2 := Lib.hid (own_far hown (show w.heap.size + 1 < h + 1 by omega))
  have hmx : dt.length + b.length ≤ maxLen := by unfold maxLen; omega
  have hby : (dt.length + b.length) * 1 ≤ 140737488355328 := by omega
  have hbz : h + 1 ≤ w2.heap.size := by omega
  have hQ2 := HQ.out.later hw2
  have hb1o := bys_one b
  go_wp2_with (at_builtin; refine wp_app (w0 := w2) rfl (.tmp 71) (.tmp 72) _ rfl (h + 1) 5 rfl inf_u8b rfl (by decide) rfl hown rfl hQ2 hb1o hmx hby (Below.refl _ _) hbz ?_; intro p7 c7 w7 hown7 hb7 hs7 hg7 hnb7; have hX7 := HX2.out.grown hg7 HN1.out; have hY7 := HY5.out.grown hg7 HN2.out; have hO7 := own_grown HOUT.out hg7 (fun k hk e => HAP.out k e hk); have hfr7 := hO7.frozenAt (ix * 3 + 1); have hco7 := hO7.cellAt (ix * 3 + 1) hix3; rw [HDC.out] at hco7; have hx7 := hX7.one; obtain ⟨yt, hyt⟩ := hY7; have hyf : w7.frozen? ⟨w.heap.size + 1, 0, none⟩ = false := (by simp [World.frozen?, hyt]); have hyc : w7.cell? ⟨w.heap.size + 1, 0, none⟩ = some (.slice none 0 0) := (by simp [World.cell?, hyt]))
  have hmix := HGR.out w7 (.slice p7 (dt.length + b.length) c7) (dt ++ b) hg7 (by rw [List.length_append, show bys (dt ++ b) = bys dt ++ bys b by simp [bys]]; exact hown7) (by rcases hnb7 with hh | hh; exact .inl hh; exact .inr ⟨_, Nat.le_refl _, hh⟩)
  have hlen : (L2.set ix (({ nm := nm', dt := dt ++ b, sy := sy } : Fl), Value.slice p7 (dt.length + b.length) c7)).length = L2.length := by rw [List.length_set]
  refine bodyPost_ret (v := .tuple #[.agg #[.slice (some ⟨g, 0, none⟩) L2.length cz], .int .i64 0]) ?_ rfl ⟨some ⟨g, 0, none⟩, cz, _, by rw [hlen], Lib.hid ((HMAP.out (dt ++ b) _).trans (HAF.out.trans (by rw [HFS.out]))), ?_, ?_⟩
  · rw [results_cell_tmp rfl]
    go_simp
  · rw [hlen]
    refine RDk.mono (B := h + 1) ?_ (by omega)
    exact (hmix.setCell (by show w.heap.size + 1 < h + 1; omega) _).rd
  · refine Below.setCell (Below.setCell ?_ (by show w.heap.size ≤ g; omega) _) (by show w.heap.size ≤ w.heap.size + 1; omega) _
    exact hw2.trans (hb7.mono (by omega))
end Go.Proofs.YtmdbcknlipahgaaDoor
