/- The walk of disk.Crash. -/
import Derived.Test.YtmdbcknlipahgaaDoorDSync
import Derived.IntWalk
import Derived.BigQuiet
import Derived.Deep.QuietTactic
import Derived.Deep.LoopGhost
import Derived.Deep.DeepCutAuto
import Derived.Deep.RegionHeld3
import Derived.WalkSmall
namespace Go.Proofs.YtmdbcknlipahgaaDoor
open Go.RowKit
theorem RdB.cut {w : World} {B n m c : Nat} {p : Option Addr} {d : List Nat} (h : RdB w B 1 (.slice p n c) n (bys d)) (hm : m ≤ n) : RdB w B 1 (.slice p m m) m (bys (d.take m)) := by
  obtain ⟨⟨p', c', he, h1, h2, h3, h4, h5⟩, h6⟩ := h
  cases he
  refine ⟨⟨p, m, rfl, Nat.le_refl _, by omega, ?_, fun hp => ?_, ?_⟩, fun k hk => h6 k (by cases p <;> exact hk)⟩
  · simp [bys] at h3 ⊢; omega
  · have := h4 hp; omega
  · rcases h5 with h5 | ⟨b, off, rfl, h5⟩
    · exact .inl (by have h7 : (bys d).length = 0 := by rw [h5]; rfl
                     have h8 : d = [] := by simpa [bys] using h7
                     rw [h8]; simp [bys])
    · refine .inr ⟨b, off, rfl, fun j u hj => h5 j u ?_⟩
      unfold bys at hj ⊢
      rw [List.map_take] at hj
      have hjl := (List.getElem?_eq_some_iff.1 hj).1
      rw [List.length_take] at hjl
      rwa [List.getElem?_take_of_lt (by omega)] at hj
set_option maxHeartbeats 4000000 in
set_option maxRecDepth 100000 in
theorem crash_ok (v : Value) (l : List (Fl × Value)) (k : Nat) (w : World) (hR : RDk w 0 v l) (hD : DkOk (l.map (·.1))) (hk : k ≤ 1000) :
    Calls Tryd.prog 23 #[.agg #[v], .int .i64 (k : Int)] w fun e w' => ∃ p c l', e = .returned (.tuple #[.agg #[.slice p l'.length c], .int .i64 0]) ∧ Hid (l'.map (·.1) = crF (l.map (·.1)) k) ∧ RDk w' w.heap.size (.slice p l'.length c) l' ∧ Below w.heap.size w w' := by
  have hval := hR.val
  obtain ⟨p, c, rfl, hcc1, hcc2⟩ := hval
  have HO := Lib.hid (fun w' (hb : Below w.heap.size w w') => dopen_ok _ l w' (hR.later hb) hD)
  have hn40 := hD.len
  rw [List.length_map] at hn40
  obtain ⟨fs, hfs⟩ : ∃ fs, fs = l.map (·.1) := ⟨_, rfl⟩
  rw [← hfs] at HO
  have hfl : fs.length = l.length := by rw [hfs, List.length_map]
  have HFL := Lib.hid hfl
  have HFS := Lib.hid hfs
  have HDD := Lib.hid (by rw [hfs]; exact hD.ok : ∀ f ∈ fs, FlOk f)
  clear hR hD hfs hfl
  obtain ⟨b1, B1, z1⟩ := boxed0 w [.slice p l.length c] 61
  have hs1 : (w.alloc (.cells #[.slice p l.length c] 61)).heap.size = w.heap.size + 1 := by simp
  obtain ⟨b2, B2, z2⟩ := boxed0 (w.alloc (.cells #[.slice p l.length c] 61)) [.slice none 0 0] 61
  have X0 := B1.next b2
  have hx0 := X0.one
  have hbw := b1.trans (b2.mono (by omega))
  rw [hs1] at B2 z2
  clear b1 b2 B1 z1 hs1
  go_enter Tryd.func23, Tryd.ntmps23
  go_wp2_with fail
  refine (HO.out _ hbw).mono ?_; rintro e w1 ⟨h, p1, c1, l1, rfl, hl1, hh1, hh2, X1, O1, hb1⟩
  have hw1 := hbw.trans (hb1.mono hbw.size)
  have Y4 := B2.next hb1
  have hl1len : l1.length = l.length := by rw [← HFL.out, ← hl1.out, List.length_map]
  have hL1 := Lib.hid hl1.out
  have M1 := O1.mix
  obtain ⟨_, _, _, hc11, hc12⟩ := O1.rd.val
  clear hx0 X0 B2 hbw hb1 hl1 O1
  generalize hW0 : (((w.alloc (.cells #[.slice p l.length c] 61)).alloc (.cells #[.slice none 0 0] 61))) = W0 at *
  have hws : w.heap.size + 1 < h := by omega
  clear hW0
  obtain ⟨n, hn⟩ : ∃ n, n = l1.length := ⟨_, rfl⟩
  have hn40' : n ≤ 40 := by omega
  have HN := Lib.hid hn
  have HFN := Lib.hid (show fs.length = n by rw [HFL.out, hn, hl1len])
  have hX1 := X1
  rw [← hn] at hX1
  have hx1 := hX1.one
  have hkn : ¬ (k : Int) < 0 := by omega
  have hM1 := Lib.hid M1
  have hX1' := Lib.hid hX1
  clear hl1len hn M1 hX1 X1
  go_wp2_with fail
  obtain ⟨wo, rfl⟩ : ∃ wo : World, wo = w1 := ⟨_, rfl⟩
  go_loopg [29] n (fun gk v29 wr => ∃ (i : Nat) (l' : List (Fl × Value)), v29 = .int .i64 (i : Int) ∧ i + gk = n ∧ Hid (l'.length = n) ∧ Hid (l'.map (·.1) = (fs.take i).map (crF1 k) ++ fs.drop i) ∧ Hid (MixDk wr (h + 1) (.slice p1 l'.length c1) l') ∧ Bx wr h [.slice p1 n c1] ∧ Bx wr (w.heap.size + 1) [.slice none 0 0] ∧ Below w.heap.size w wr)
  case atStart => exact ⟨0, l1, rfl, by omega, Lib.hid HN.out.symm, Lib.hid (by rw [hL1.out]; simp), hM1, hX1'.out, Y4, hw1⟩
  case round =>
    clear hM1 hX1' Y4 hw1 hx1
    obtain ⟨i, l', rfl, hgi, HLL, HMP, HM, hX, hY, hb⟩ := hrel
    have HGI := Lib.hid hgi
    have hi : i ≤ n := by omega
    clear hgi
    have hx0 := hX.one
    by_cases hlt : i < n
    · have hil : i < l'.length := by rw [HLL.out]; exact hlt
      have hif : i < fs.length := by rw [HFN.out]; exact hlt
      obtain ⟨g, rfl, _, _, _⟩ : ∃ g, p1 = some ⟨g, 0, none⟩ ∧ True ∧ True ∧ True := by
        obtain ⟨g, hg, _⟩ := own_ptr HM.out.outer (by omega)
        exact ⟨g, hg, trivial, trivial, trivial⟩
      have hgl := HM.out.outer.lt g rfl
      have hgh : h + 1 ≤ g := hgl.1
      obtain ⟨_, _, hpe, hc0, hc1, hc2, hdv⟩ := HM.out.rd.get hil
      cases hpe
      have hli : l'[i].1 = fs[i] := by
        have h1 : (l'.map (·.1))[i]? = some fs[i] := by
          rw [HMP.out, List.getElem?_append_right (by rw [List.length_map, List.length_take]; omega), List.length_map, List.length_take, Nat.min_eq_left (by omega), Nat.sub_self, List.getElem?_drop, Nat.add_zero, List.getElem?_eq_getElem hif]
        rw [List.getElem?_map, List.getElem?_eq_getElem hil] at h1
        simpa using h1
      have hok := HDD.out _ (List.getElem_mem hif)
      rw [← hli] at hok
      have hsy := hok.sy
      have hdl := hok.d
      obtain ⟨qv, dv, hqv, hdd1, hdd2⟩ := hdv.val
      rw [Nat.zero_add] at hc1 hc2
      rw [hqv] at hc1
      obtain ⟨dl, hdle⟩ : ∃ x, x = l'[i].1.dt.length := ⟨_, rfl⟩
      obtain ⟨sy, hsye⟩ : ∃ x, x = l'[i].1.sy := ⟨_, rfl⟩
      rw [← hdle] at hc1 hdd1 hsy hdl
      rw [← hsye] at hc2 hsy
      have HDE := Lib.hid (And.intro hdle hsye)
      have HLI := Lib.hid hli
      have HDV := Lib.hid hdv
      have HQV := Lib.hid hqv
      clear hdle hsye hli hok hdv hqv hc0
      obtain ⟨nn, hnn⟩ : ∃ nn, nn = sy + min k (dl - sy) := ⟨_, rfl⟩
      have hnl : nn ≤ dl := by omega
      have hi0 : (0 : Int) ≤ (i : Int) := by omega
      have hin : (i : Int) < (n : Int) := by omega
      have hd1 : decide ((i : Int) < (n : Int)) = true := by simp; omega
      have hd2 : decide (i < n) = true := by simp; omega
      have hgn1 : ¬ g = h := by omega
      have hgn2 : ¬ h = g := by omega
      have hf1 := HM.out.outer.frozenAt (i * 3 + 1)
      have hf2 := HM.out.outer.frozenAt (i * 3 + 2)
      have HNN := Lib.hid hnn
      have hws1 : IntKind.i64.wrap ((dl : Int) - (sy : Int)) = (dl : Int) - (sy : Int) := IntWalk.i64_in _ (by omega)
      have hn0 : (0 : Int) ≤ (nn : Int) := by omega
      have hnd : (nn : Int) ≤ (dv : Int) := by omega
      have hnd2 : nn ≤ dv := by omega
      clear hnn
      by_cases hmk : k ≤ dl - sy
      · have hle : (k : Int) ≤ (dl : Int) - (sy : Int) := by omega
        have hval : (sy : Int) + (k : Int) = (nn : Int) := by have := HNN.out; omega
        have hwv : IntKind.i64.wrap ((sy : Int) + (k : Int)) = (nn : Int) := by rw [hval]; exact IntWalk.i64_in _ (by omega)
        go_upto_region 10 with fail
        go_quiet (fail)
        have HM0 := HM
        have HM := Lib.hid (HM0.out.later (below_drewN (Below.refl _ wr) nq))
        have hX := (show Bx (wr.drewN nq) h _ from hX)
        have hY := (show Bx (wr.drewN nq) (w.heap.size + 1) _ from hY)
        have hb := below_drewN hb nq
        have hdv := HDV.out.later (below_drewN (Below.refl _ wr) nq)
        have hqv := HQV.out
        have hli := HLI.out
        have hnl : nn ≤ l'[i].1.dt.length := by rw [← HDE.out.1]; exact hnl
        have hc1 : (wr.drewN nq).cell? ⟨g, i * 3 + 1, none⟩ = _ := hc1
        have hc2 : (wr.drewN nq).cell? ⟨g, i * 3 + 2, none⟩ = _ := hc2
        have hf1 : (wr.drewN nq).frozen? ⟨g, i * 3 + 1, none⟩ = false := hf1
        have hf2 : (wr.drewN nq).frozen? ⟨g, i * 3 + 2, none⟩ = false := hf2
        clear HM0
        have hnn : nn = l'[i].1.sy + min k (l'[i].1.dt.length - l'[i].1.sy) := by rw [← HDE.out.1, ← HDE.out.2]; exact HNN.out
        generalize wr.drewN nq = wd at *
        have hap := HM.out.ap _ (List.getElem_mem hil)
        have hcut := (by rw [hqv] at hdv; exact hdv.cut hnl : RdB wd (h + 1) 1 (.slice qv nn nn) nn (bys (l'[i].1.dt.take nn)))
        have hapq : (Value.slice qv nn nn).ownBlock ≠ some g := fun e => hap g (by rw [hqv]; cases qv <;> exact e) rfl
        have hlt1 : (l'[i].1.dt.take nn).length = nn := by rw [List.length_take]; omega
        have hp1 := HM.out.put (i := i) (j := 1) (u := .slice qv nn nn) (v' := .slice qv nn nn) (f' := { l'[i].1 with dt := l'[i].1.dt.take nn }) hil (by decide) rfl (by show RdB wd (h + 1) 1 _ (l'[i].1.dt.take nn).length (bys (l'[i].1.dt.take nn)); rw [hlt1]; exact hcut) hapq
        have hil2 : i < (l'.set i ({ l'[i].1 with dt := l'[i].1.dt.take nn }, Value.slice qv nn nn)).length := by rw [List.length_set]; exact hil
        have hp2 := (by rw [show l'.length = (l'.set i ({ l'[i].1 with dt := l'[i].1.dt.take nn }, Value.slice qv nn nn)).length from (List.length_set ..).symm] at hp1; exact hp1 : MixDk (wd.setCell ⟨g, i * 3 + 1, none⟩ (.slice qv nn nn)) (h + 1) (.slice (some ⟨g, 0, none⟩) (l'.set i ({ l'[i].1 with dt := l'[i].1.dt.take nn }, Value.slice qv nn nn)).length c1) (l'.set i ({ l'[i].1 with dt := l'[i].1.dt.take nn }, Value.slice qv nn nn)))
        have hp3 := hp2.put (i := i) (j := 2) (u := .int .i64 (nn : Int)) (v' := .slice qv nn nn) (f' := { l'[i].1 with dt := l'[i].1.dt.take nn, sy := nn }) hil2 (by decide) (by simp [flC]) (by show RdB _ (h + 1) 1 _ (l'[i].1.dt.take nn).length (bys (l'[i].1.dt.take nn)); rw [hlt1]; exact hcut.setNe hapq _) hapq
        rw [List.set_set, List.length_set] at hp3
        have hcr : ({ l'[i].1 with dt := l'[i].1.dt.take nn, sy := nn } : Fl) = crF1 k fs[i] := by rw [← hli, hnn]; rfl
        have hmp2 : (l'.set i ({ l'[i].1 with dt := l'[i].1.dt.take nn, sy := nn }, Value.slice qv nn nn)).map (·.1) = (fs.take (i + 1)).map (crF1 k) ++ fs.drop (i + 1) := by
          rw [List.map_set, HMP.out, hcr, List.set_append_right _ _ (by rw [List.length_map, List.length_take]; omega), List.length_map, List.length_take, Nat.min_eq_left (by omega), Nat.sub_self, List.drop_eq_getElem_cons hif, List.set_cons_zero, List.take_succ_eq_append_getElem hif, List.map_append, List.append_assoc]
          rfl
        have HP3 := Lib.hid hp3
        have HMP2 := Lib.hid hmp2
        have HLL2 := Lib.hid (show (l'.set i ({ l'[i].1 with dt := l'[i].1.dt.take nn, sy := nn }, Value.slice qv nn nn)).length = n by rw [List.length_set]; exact HLL.out)
        have hX3 := Lib.hid (bx_oth (bx_oth hX (a := ⟨g, i * 3 + 1, none⟩) (by show h ≠ g; omega) (.slice qv nn nn)) (a := ⟨g, i * 3 + 2, none⟩) (by show h ≠ g; omega) (.int .i64 (nn : Int)))
        have hY3 := Lib.hid (bx_oth (bx_oth hY (a := ⟨g, i * 3 + 1, none⟩) (by show w.heap.size + 1 ≠ g; omega) (.slice qv nn nn)) (a := ⟨g, i * 3 + 2, none⟩) (by show w.heap.size + 1 ≠ g; omega) (.int .i64 (nn : Int)))
        have hb3 := Lib.hid (show Below w.heap.size w ((wd.setCell ⟨g, i * 3 + 1, none⟩ (.slice qv nn nn)).setCell ⟨g, i * 3 + 2, none⟩ (.int .i64 (nn : Int))) from (hb.setCell (by show w.heap.size ≤ g; omega) _).setCell (by show w.heap.size ≤ g; omega) _)
        have hcw := hnd2
        clear hnn hws1
        clear hap hdv hqv hli hnl
        generalize l'.set i ({ l'[i].1 with dt := l'[i].1.dt.take nn, sy := nn }, Value.slice qv nn nn) = l3 at *
        go_wp2_with fail
        go_roundg (n - (i + 1))
        case measure => have := HGI.out; omega
        case rel => exact ⟨i + 1, l3, by go_num, by omega, HLL2, HMP2, Lib.hid (by have h := HP3.out; rw [HLL.out, ← HLL2.out] at h; exact h), hX3.out, hY3.out, hb3.out⟩
      · have hle : ¬ (k : Int) ≤ (dl : Int) - (sy : Int) := by omega
        have hval : (sy : Int) + ((dl : Int) - (sy : Int)) = (nn : Int) := by have := HNN.out; omega
        have hwv : IntKind.i64.wrap ((sy : Int) + ((dl : Int) - (sy : Int))) = (nn : Int) := by rw [hval]; exact IntWalk.i64_in _ (by omega)
        go_upto_region 10 with fail
        go_quiet (fail)
        have HM0 := HM
        have HM := Lib.hid (HM0.out.later (below_drewN (Below.refl _ wr) nq))
        have hX := (show Bx (wr.drewN nq) h _ from hX)
        have hY := (show Bx (wr.drewN nq) (w.heap.size + 1) _ from hY)
        have hb := below_drewN hb nq
        have hdv := HDV.out.later (below_drewN (Below.refl _ wr) nq)
        have hqv := HQV.out
        have hli := HLI.out
        have hnl : nn ≤ l'[i].1.dt.length := by rw [← HDE.out.1]; exact hnl
        have hc1 : (wr.drewN nq).cell? ⟨g, i * 3 + 1, none⟩ = _ := hc1
        have hc2 : (wr.drewN nq).cell? ⟨g, i * 3 + 2, none⟩ = _ := hc2
        have hf1 : (wr.drewN nq).frozen? ⟨g, i * 3 + 1, none⟩ = false := hf1
        have hf2 : (wr.drewN nq).frozen? ⟨g, i * 3 + 2, none⟩ = false := hf2
        clear HM0
        have hnn : nn = l'[i].1.sy + min k (l'[i].1.dt.length - l'[i].1.sy) := by rw [← HDE.out.1, ← HDE.out.2]; exact HNN.out
        generalize wr.drewN nq = wd at *
        have hap := HM.out.ap _ (List.getElem_mem hil)
        have hcut := (by rw [hqv] at hdv; exact hdv.cut hnl : RdB wd (h + 1) 1 (.slice qv nn nn) nn (bys (l'[i].1.dt.take nn)))
        have hapq : (Value.slice qv nn nn).ownBlock ≠ some g := fun e => hap g (by rw [hqv]; cases qv <;> exact e) rfl
        have hlt1 : (l'[i].1.dt.take nn).length = nn := by rw [List.length_take]; omega
        have hp1 := HM.out.put (i := i) (j := 1) (u := .slice qv nn nn) (v' := .slice qv nn nn) (f' := { l'[i].1 with dt := l'[i].1.dt.take nn }) hil (by decide) rfl (by show RdB wd (h + 1) 1 _ (l'[i].1.dt.take nn).length (bys (l'[i].1.dt.take nn)); rw [hlt1]; exact hcut) hapq
        have hil2 : i < (l'.set i ({ l'[i].1 with dt := l'[i].1.dt.take nn }, Value.slice qv nn nn)).length := by rw [List.length_set]; exact hil
        have hp2 := (by rw [show l'.length = (l'.set i ({ l'[i].1 with dt := l'[i].1.dt.take nn }, Value.slice qv nn nn)).length from (List.length_set ..).symm] at hp1; exact hp1 : MixDk (wd.setCell ⟨g, i * 3 + 1, none⟩ (.slice qv nn nn)) (h + 1) (.slice (some ⟨g, 0, none⟩) (l'.set i ({ l'[i].1 with dt := l'[i].1.dt.take nn }, Value.slice qv nn nn)).length c1) (l'.set i ({ l'[i].1 with dt := l'[i].1.dt.take nn }, Value.slice qv nn nn)))
        have hp3 := hp2.put (i := i) (j := 2) (u := .int .i64 (nn : Int)) (v' := .slice qv nn nn) (f' := { l'[i].1 with dt := l'[i].1.dt.take nn, sy := nn }) hil2 (by decide) (by simp [flC]) (by show RdB _ (h + 1) 1 _ (l'[i].1.dt.take nn).length (bys (l'[i].1.dt.take nn)); rw [hlt1]; exact hcut.setNe hapq _) hapq
        rw [List.set_set, List.length_set] at hp3
        have hcr : ({ l'[i].1 with dt := l'[i].1.dt.take nn, sy := nn } : Fl) = crF1 k fs[i] := by rw [← hli, hnn]; rfl
        have hmp2 : (l'.set i ({ l'[i].1 with dt := l'[i].1.dt.take nn, sy := nn }, Value.slice qv nn nn)).map (·.1) = (fs.take (i + 1)).map (crF1 k) ++ fs.drop (i + 1) := by
          rw [List.map_set, HMP.out, hcr, List.set_append_right _ _ (by rw [List.length_map, List.length_take]; omega), List.length_map, List.length_take, Nat.min_eq_left (by omega), Nat.sub_self, List.drop_eq_getElem_cons hif, List.set_cons_zero, List.take_succ_eq_append_getElem hif, List.map_append, List.append_assoc]
          rfl
        have HP3 := Lib.hid hp3
        have HMP2 := Lib.hid hmp2
        have HLL2 := Lib.hid (show (l'.set i ({ l'[i].1 with dt := l'[i].1.dt.take nn, sy := nn }, Value.slice qv nn nn)).length = n by rw [List.length_set]; exact HLL.out)
        have hX3 := Lib.hid (bx_oth (bx_oth hX (a := ⟨g, i * 3 + 1, none⟩) (by show h ≠ g; omega) (.slice qv nn nn)) (a := ⟨g, i * 3 + 2, none⟩) (by show h ≠ g; omega) (.int .i64 (nn : Int)))
        have hY3 := Lib.hid (bx_oth (bx_oth hY (a := ⟨g, i * 3 + 1, none⟩) (by show w.heap.size + 1 ≠ g; omega) (.slice qv nn nn)) (a := ⟨g, i * 3 + 2, none⟩) (by show w.heap.size + 1 ≠ g; omega) (.int .i64 (nn : Int)))
        have hb3 := Lib.hid (show Below w.heap.size w ((wd.setCell ⟨g, i * 3 + 1, none⟩ (.slice qv nn nn)).setCell ⟨g, i * 3 + 2, none⟩ (.int .i64 (nn : Int))) from (hb.setCell (by show w.heap.size ≤ g; omega) _).setCell (by show w.heap.size ≤ g; omega) _)
        have hcw := hnd2
        clear hnn hws1
        clear hap hdv hqv hli hnl
        generalize l'.set i ({ l'[i].1 with dt := l'[i].1.dt.take nn, sy := nn }, Value.slice qv nn nn) = l3 at *
        go_wp2_with fail
        go_roundg (n - (i + 1))
        case measure => have := HGI.out; omega
        case rel => exact ⟨i + 1, l3, by go_num, by omega, HLL2, HMP2, Lib.hid (by have h := HP3.out; rw [HLL.out, ← HLL2.out] at h; exact h), hX3.out, hY3.out, hb3.out⟩
    · obtain rfl : i = n := by omega
      have hd1 : decide ((i : Int) < (i : Int)) = false := by simp
      have hd2 : decide (i < i) = false := by simp
      obtain ⟨yt, hyt⟩ := hY
      have hyf : wr.frozen? ⟨w.heap.size + 1, 0, none⟩ = false := by simp [World.frozen?, hyt]
      have hyc : wr.cell? ⟨w.heap.size + 1, 0, none⟩ = some (.slice none 0 0) := by simp [World.cell?, hyt]
      have HCR := Lib.hid (show l'.map (·.1) = crF (l.map (·.1)) k by rw [HMP.out, ← HFS.out, List.take_of_length_le (by rw [HFN.out]; exact Nat.le_refl _), List.drop_eq_nil_of_le (by rw [HFN.out]; exact Nat.le_refl _), List.append_nil]; rfl)
      clear hyt
      go_wp2_with fail
      refine bodyPost_ret (v := .tuple #[.agg #[.slice p1 i c1], .int .i64 0]) ?_ rfl ⟨p1, c1, l', by rw [HLL.out], HCR, ?_, ?_⟩
      · rw [results_cell_tmp rfl]
        go_simp
      · refine RDk.mono (B := h + 1) ?_ (by omega)
        exact (HM.out.setCell (by show w.heap.size + 1 < h + 1; omega) _).rd
      · exact hb.setCell (by show w.heap.size ≤ w.heap.size + 1; omega) _
end Go.Proofs.YtmdbcknlipahgaaDoor
