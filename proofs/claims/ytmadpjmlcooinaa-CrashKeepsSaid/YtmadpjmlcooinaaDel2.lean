/- The walk of slices.DeleteFunc at files. -/
import Derived.Test.YtmadpjmlcooinaaDel
import Derived.Deep.LoopGhost
import Derived.Lib.SliceRun
namespace Go.Proofs.Ytmadpjmlcooinaa
open Go.RowKit
theorem zero_file (w : World) : (zeroValue 115).run Try.prog w = .ok (.agg #[.string ⟨#[]⟩, .slice none 0 0, .int .i64 0]) w := by kernel_rfl
theorem run_clear1 (w : World) (g o c : Nat) (v0 v1 v2 : Value) (h0 : w.cell? ⟨g, o, none⟩ = some v0) (h1 : w.cell? ⟨g, o + 1, none⟩ = some v1) (h2 : w.cell? ⟨g, o + 2, none⟩ = some v2)
    (f0 : w.frozen? ⟨g, o, none⟩ = false) (f1 : w.frozen? ⟨g, o + 1, none⟩ = false) (f2 : w.frozen? ⟨g, o + 2, none⟩ = false) (ty : TypeId) :
    (Builtin.clear_ #[73] ty #[.slice (some ⟨g, o, none⟩) 1 c]).run Try.prog w = .ok (.tuple #[]) (((w.setCell ⟨g, o, none⟩ (.string ⟨#[]⟩)).setCell ⟨g, o + 1, none⟩ (.slice none 0 0)).setCell ⟨g, o + 2, none⟩ (.int .i64 0)) := by
  have hzc : (Builtin.zeroCells (Value.agg #[.string ⟨#[]⟩, .slice none 0 0, .int .i64 0]).cells 1).toList = [.string ⟨#[]⟩, .slice none 0 0, .int .i64 0] := by kernel_rfl
  have hst := run_storeCells_cells (P := Try.prog) g o [.string ⟨#[]⟩, .slice none 0 0, .int .i64 0] 0 w
    (fun j hj => by
      match j, hj with
      | 0, _ => show (w.cell? ⟨g, o + 0 + 0, none⟩).isSome = true; rw [Nat.add_zero, h0]; rfl
      | 1, _ => show (w.cell? ⟨g, o + 0 + 1, none⟩).isSome = true; rw [Nat.add_zero, h1]; rfl
      | 2, _ => show (w.cell? ⟨g, o + 0 + 2, none⟩).isSome = true; rw [Nat.add_zero, h2]; rfl)
    (fun j hj => by
      match j, hj with
      | 0, _ => show w.frozen? ⟨g, o + 0 + 0, none⟩ = false; rw [Nat.add_zero, f0]
      | 1, _ => show w.frozen? ⟨g, o + 0 + 1, none⟩ = false; rw [Nat.add_zero, f1]
      | 2, _ => show w.frozen? ⟨g, o + 0 + 2, none⟩ = false; rw [Nat.add_zero, f2])
    (by simp [Value.oneCell'])
  rw [Nat.add_zero] at hst
  simp [Builtin.clear_, run_underlying Try.underlying73, hzc, hst]
  rfl
set_option maxHeartbeats 8000000 in
set_option maxRecDepth 100000 in
theorem del_hit_ren (nm : ByteArray) (q B g c m : Nat) (l : List (Fl × Value)) (w : World) (hq : Bx w q [.string nm]) (hqB : q < B) (hO : MixDk w B (.slice (some ⟨g, 0, none⟩) (m + 1) c) l) (hl : l.length = m + 1) (hm : m ≤ 39)
    (hix : ixF (l.map (·.1)) nm < l.length) (hone : ∀ j, (h : j < l.length) → ixF (l.map (·.1)) nm < j → l[j].1.nm.toList ≠ nm.toList) :
    Calls Try.prog 46 #[.slice (some ⟨g, 0, none⟩) (m + 1) c, .func (Fn.func 47) #[] #[.pointer (some ⟨q, 0, none⟩)]] w fun e w' => e = .returned (.slice (some ⟨g, 0, none⟩) m c) ∧ w'.ownsRow B 115 3 (.slice (some ⟨g, 0, none⟩) m c) m (dkC (l.eraseIdx (ixF (l.map (·.1)) nm))) ∧ w.grownBy w' (some g) := by
  have hgl := hO.outer.lt g rfl
  obtain ⟨hc11, hc12⟩ : m + 1 ≤ c ∧ c ≤ 9223372036854775807 := by
    obtain ⟨_, _, _, h1, h2⟩ := own_ptr hO.outer (by omega)
    exact ⟨by omega, h2⟩
  have HIX := indexF_ren nm q (some ⟨g, 0, none⟩) c l w hq (by rw [hl]; exact hO.rd.mono (Nat.zero_le _)) (by omega)
  have hixv : ixV (l.map (·.1)) nm = (ixF (l.map (·.1)) nm : Int) := by unfold ixV; rw [if_pos (by rw [List.length_map]; exact hix)]
  rw [hixv, hl] at HIX
  have HIXH := Lib.hid HIX
  have HQ := Lib.hid hq
  have HONE := Lib.hid hone
  have HLL := Lib.hid hl
  have hixm : ixF (l.map (·.1)) nm < m + 1 := by omega
  have hOo := hO.outer
  rw [hl] at hOo
  have HINN := Lib.hid hO.inn
  clear HIX hixv hix hone hq hl hO
  generalize ixF (l.map (·.1)) nm = ix at *
  have hne1 : ¬ ((ix : Int) = -1) := by omega
  have hwi1 : IntKind.i64.wrap ((ix : Int) + 1) = (ix : Int) + 1 := IntWalk.i64_in _ (by omega)
  go_enter Try.func46, Try.ntmps46
  go_wp2_with fail
  refine HIXH.out.mono ?_; rintro e w1 ⟨rfl, hb1⟩
  have ho1 := own_later hOo hb1
  have hgr1 : w.grownBy w1 (some g) := grown_belowS hb1
  clear hOo hb1
  go_wp2_with fail
  obtain ⟨wo, rfl⟩ : ∃ wo : World, wo = w1 := ⟨_, rfl⟩
  go_loopg [5, 6] (m - ix) (fun gk v5 v6 wr => ∃ i j k : Nat, v5 = .int .i64 (i : Int) ∧ v6 = .int .i64 (j : Int) ∧ Hid (i = ix + k) ∧ i + 1 + gk = m + 1 ∧ Hid (j = i + 1) ∧ wr.ownsRow B 115 3 (.slice (some ⟨g, 0, none⟩) (m + 1) c) (m + 1) (dkC (shL l ix k)) ∧ w.grownBy wr (some g))
  case atStart => exact ⟨ix, ix + 1, 0, rfl, by go_num, Lib.hid rfl, by omega, Lib.hid rfl, by rw [shL_zero]; exact ho1, hgr1⟩
  case round =>
    clear ho1 hgr1
    obtain ⟨i, j, k, rfl, rfl, HI, hgk, HJ, ho, hg⟩ := hrel
    have HGK := Lib.hid hgk
    have hk : i ≤ m := by omega
    have hj1 : j ≤ m + 1 := by have := HJ.out; omega
    have hgB : B ≤ g := hgl.1
    have hlen := shL_len (l := l) (ix := ix) (k := k) (by have := HI.out; have := HLL.out; omega)
    have hbq := HQ.out.grown hg (fun e => by cases e; omega)
    clear hgk
    by_cases hjm : j < m + 1
    · have hjl : j < l.length := by have := HLL.out; omega
      have hji : ix + 1 + k = j := by have := HJ.out; have := HI.out; omega
      have hjs : j < (shL l ix k).length := by rw [hlen]; exact hjl
      have hsj : (shL l ix k)[j] = l[j] := by
        have h1 := shL_far (l := l) (ix := ix) (k := k) (j := j) (by omega) (by omega)
        rw [List.getElem?_eq_getElem hjs, List.getElem?_eq_getElem hjl] at h1
        injection h1
      have hstep := shL_step (l := l) (ix := ix) (k := k) (by omega)
      have hst2 : (shL l ix k).set i l[j] = shL l ix (k + 1) := by
        rw [← hstep, ← HI.out]
        simp only [hji]
      have hnm := HONE.out j hjl (by have := HI.out; have := HJ.out; omega)
      obtain ⟨qd, dd, hqd, _, _⟩ := (HINN.out _ (List.getElem_mem hjl)).val
      have c0 := ho.cellAt (j * 3 + 0) (by omega)
      have c1 := ho.cellAt (j * 3 + 1) (by omega)
      have c2 := ho.cellAt (j * 3 + 2) (by omega)
      rw [dkC_at hjs 0 _ rfl, hsj] at c0
      rw [dkC_at hjs 1 _ rfl, hsj, hqd] at c1
      rw [dkC_at hjs 2 _ rfl, hsj] at c2
      have his : i < (shL l ix k).length := by rw [hlen]; have := HLL.out; omega
      have hput := dkC_put his l[j].1 l[j].2
      rw [show (l[j].1, l[j].2) = l[j] from rfl, hst2, hqd] at hput
      have HPUT := Lib.hid hput
      clear hput hst2 hstep hsj hqd hlen hji
      generalize l[j].1 = f at *
      generalize f.dt.length = dl at *
      obtain ⟨nm', dt, sy⟩ := f
      dsimp only at *
      rw [Nat.add_zero] at c0
      obtain ⟨u0, hu0⟩ : ∃ u, (dkC (shL l ix k))[i * 3]? = some u := ⟨_, List.getElem?_eq_getElem (by rw [dkC_len]; omega)⟩
      obtain ⟨u1, hu1⟩ : ∃ u, (dkC (shL l ix k))[i * 3 + 1]? = some u := ⟨_, List.getElem?_eq_getElem (by rw [dkC_len]; omega)⟩
      obtain ⟨u2, hu2⟩ : ∃ u, (dkC (shL l ix k))[i * 3 + 2]? = some u := ⟨_, List.getElem?_eq_getElem (by rw [dkC_len]; omega)⟩
      have HU := Lib.hid (And.intro hu0 (And.intro hu1 hu2))
      clear hu0 hu1 hu2 his hjs
      have hj0 : (0 : Int) ≤ (j : Int) := by omega
      have hjn : (j : Int) < (m : Int) + 1 := by omega
      have hi0 : (0 : Int) ≤ (i : Int) := by omega
      have hin : (i : Int) < (m : Int) + 1 := by omega
      have hd1 : decide ((j : Int) < (m : Int) + 1) = true := by simp; omega
      have hd2 : decide (j < m + 1) = true := by simp; omega
      have hwj : IntKind.i64.wrap ((j : Int) + 1) = (j : Int) + 1 := IntWalk.i64_in _ (by omega)
      have hwi : IntKind.i64.wrap ((i : Int) + 1) = (i : Int) + 1 := IntWalk.i64_in _ (by omega)
      have HO := Lib.hid ho
      clear ho
      go_wp2_with fail
      refine (fclo_ren nm' nm _ _ q _ (hbq.next (alloc_below _ _))).mono ?_; rintro e w2 ⟨rfl, hb2⟩
      have hX7 : Bx (wr.alloc (.cells #[.string nm', .slice qd dl dd, .int .i64 (sy : Int)] 115)) wr.heap.size [.string nm', .slice qd dl dd, .int .i64 (sy : Int)] := bx_new wr _ _
      have hX8 := hX7.next hb2
      obtain ⟨hx0, hx1, hx2, _, _, _⟩ := hX8.three
      have ho2 := own_later (HO.out.alloc (.cells #[.string nm', .slice qd dl dd, .int .i64 (sy : Int)] 115)) hb2
      have hg2 : w.grownBy w2 (some g) := grown_trans hg (grown_trans (grown_belowS (alloc_below _ _)) (grown_belowS hb2))
      have d0 := ho2.cellAt (i * 3) (by omega)
      have d1 := ho2.cellAt (i * 3 + 1) (by omega)
      have d2 := ho2.cellAt (i * 3 + 2) (by omega)
      rw [HU.out.1] at d0
      rw [HU.out.2.1] at d1
      rw [HU.out.2.2] at d2
      have f0 := ho2.frozenAt (i * 3)
      have f1 := ho2.frozenAt (i * 3 + 1)
      have f2 := ho2.frozenAt (i * 3 + 2)
      have hst := (((ho2.stored (i * 3) (.string nm')).1.stored (i * 3 + 1) (.slice qd dl dd)).1.stored (i * 3 + 2) (.int .i64 (sy : Int))).1
      rw [← HPUT.out] at hst
      have HST := Lib.hid hst
      have hg3 := Lib.hid (grown_trans hg2 (grown_trans (grown_set (s := g) (i := i * 3) (u := .string nm')) (grown_trans (grown_set (s := g) (i := i * 3 + 1) (u := .slice qd dl dd)) (grown_set (s := g) (i := i * 3 + 2) (u := .int .i64 (sy : Int))))))
      have hne : (nm'.toList == nm.toList) = false := by simp [hnm]
      have hn1 : ¬ g = wr.heap.size := by have := hg.size; omega
      have hn2 : ¬ wr.heap.size = g := fun e => hn1 e.symm
      clear hX7 hX8 ho2 hg2 hst hnm hb2 c0 c1 c2
      go_wp2_with fail
      go_roundg (m - j)
      case measure => have := HGK.out; have := HJ.out; omega
      case rel => exact ⟨i + 1, j + 1, k + 1, by go_num, by go_num, Lib.hid (by rw [HI.out]; omega), by have := HJ.out; omega, Lib.hid (by rw [HJ.out]), HST.out, hg3.out⟩
    · obtain rfl : i = m := by have := HJ.out; omega
      have hjm : j = i + 1 := HJ.out
      subst hjm
      have hd1 : decide (((i + 1 : Nat) : Int) < (i : Int) + 1) = false := by simp
      have hd2 : decide (i + 1 < i + 1) = false := by simp
      have hcx : ¬ c = i := by omega
      have hk2 : k = i - ix := by have := HI.out; omega
      obtain ⟨x, hx⟩ := shL_end (l := l) (ix := ix) (m := i) HLL.out (by omega)
      rw [hk2, hx, dkC_append] at ho
      have hel : (dkC (l.eraseIdx ix)).length = i * 3 := by rw [dkC_len, List.length_eraseIdx_of_lt (by have := HLL.out; omega), HLL.out]; rfl
      have hxl : (dkC [x]).length = 3 := rfl
      have e0 : (dkC (l.eraseIdx ix) ++ dkC [x])[i * 3]? = some (.string x.1.nm) := by rw [List.getElem?_append_right (by omega), hel, Nat.sub_self]; rfl
      have e1 : (dkC (l.eraseIdx ix) ++ dkC [x])[i * 3 + 1]? = some x.2 := by rw [List.getElem?_append_right (by omega), hel, Nat.add_sub_cancel_left]; rfl
      have e2 : (dkC (l.eraseIdx ix) ++ dkC [x])[i * 3 + 2]? = some (.int .i64 (x.1.sy : Int)) := by rw [List.getElem?_append_right (by omega), hel, Nat.add_sub_cancel_left]; rfl
      have d0 := ho.cellAt (i * 3) (by omega)
      have d1 := ho.cellAt (i * 3 + 1) (by omega)
      have d2 := ho.cellAt (i * 3 + 2) (by omega)
      rw [e0] at d0
      rw [e1] at d1
      rw [e2] at d2
      have f0 := ho.frozenAt (i * 3)
      have f1 := ho.frozenAt (i * 3 + 1)
      have f2 := ho.frozenAt (i * 3 + 2)
      clear e0 e1 e2 hx hk2
      have hi0 : (0 : Int) ≤ (i : Int) := by omega
      have hic : (i : Int) ≤ (i : Int) + 1 := by omega
      have hicc : (i : Int) ≤ (c : Int) := by omega
      have HO := Lib.hid ho
      have HEL := Lib.hid (And.intro hel hxl)
      clear ho hel hxl
      have hclr := run_clear1 wr g (i * 3) (c - i) _ _ _ d0 d1 d2 f0 f1 f2 0
      have hst := (((HO.out.stored (i * 3) (.string ⟨#[]⟩)).1.stored (i * 3 + 1) (.slice none 0 0)).1.stored (i * 3 + 2) (.int .i64 0)).1
      have HST := Lib.hid hst
      clear hst
      go_wp2_with fail
      go_ret
      refine ⟨rfl, ?_, grown_trans hg (grown_trans (grown_set (s := g) (i := i * 3) (u := .string ⟨#[]⟩)) (grown_trans (grown_set (s := g) (i := i * 3 + 1) (u := .slice none 0 0)) (grown_set (s := g) (i := i * 3 + 2) (u := .int .i64 0))))⟩
      have h := HST.out
      rw [List.set_append_right _ _ (by rw [HEL.out.1]; omega), List.set_append_right _ _ (by rw [HEL.out.1]; omega), List.set_append_right _ _ (by rw [HEL.out.1]; omega)] at h
      exact own_shrink h (by simp [HEL.out.2])
set_option maxHeartbeats 4000000 in
set_option maxRecDepth 100000 in
theorem del_miss_ren (nm : ByteArray) (q c : Nat) (p : Option Addr) (l : List (Fl × Value)) (w : World) (hq : Bx w q [.string nm]) (hO : RDk w 0 (.slice p l.length c) l) (hm : l.length ≤ 40)
    (hix : ixF (l.map (·.1)) nm = l.length) :
    Calls Try.prog 46 #[.slice p l.length c, .func (Fn.func 47) #[] #[.pointer (some ⟨q, 0, none⟩)]] w fun e w' => e = .returned (.slice p l.length c) ∧ Below w.heap.size w w' := by
  have HIX := indexF_ren nm q p c l w hq hO hm
  have hixv : ixV (l.map (·.1)) nm = -1 := by unfold ixV; rw [if_neg (by rw [List.length_map]; omega)]
  rw [hixv] at HIX
  have HIXH := Lib.hid HIX
  clear HIX hixv hix hq hO
  go_enter Try.func46, Try.ntmps46
  go_wp2_with fail
  refine HIXH.out.mono ?_; rintro e w1 ⟨rfl, hb1⟩
  go_wp2_with fail
  go_ret
  exact ⟨rfl, hb1⟩
set_option maxHeartbeats 8000000 in
set_option maxRecDepth 100000 in
theorem del_hit_rem (nm : ByteArray) (q B g c m : Nat) (l : List (Fl × Value)) (w : World) (hq : Bx w q [.string nm]) (hqB : q < B) (hO : MixDk w B (.slice (some ⟨g, 0, none⟩) (m + 1) c) l) (hl : l.length = m + 1) (hm : m ≤ 39)
    (hix : ixF (l.map (·.1)) nm < l.length) (hone : ∀ j, (h : j < l.length) → ixF (l.map (·.1)) nm < j → l[j].1.nm.toList ≠ nm.toList) :
    Calls Try.prog 46 #[.slice (some ⟨g, 0, none⟩) (m + 1) c, .func (Fn.func 49) #[] #[.pointer (some ⟨q, 0, none⟩)]] w fun e w' => e = .returned (.slice (some ⟨g, 0, none⟩) m c) ∧ w'.ownsRow B 115 3 (.slice (some ⟨g, 0, none⟩) m c) m (dkC (l.eraseIdx (ixF (l.map (·.1)) nm))) ∧ w.grownBy w' (some g) := by
  have hgl := hO.outer.lt g rfl
  obtain ⟨hc11, hc12⟩ : m + 1 ≤ c ∧ c ≤ 9223372036854775807 := by
    obtain ⟨_, _, _, h1, h2⟩ := own_ptr hO.outer (by omega)
    exact ⟨by omega, h2⟩
  have HIX := indexF_rem nm q (some ⟨g, 0, none⟩) c l w hq (by rw [hl]; exact hO.rd.mono (Nat.zero_le _)) (by omega)
  have hixv : ixV (l.map (·.1)) nm = (ixF (l.map (·.1)) nm : Int) := by unfold ixV; rw [if_pos (by rw [List.length_map]; exact hix)]
  rw [hixv, hl] at HIX
  have HIXH := Lib.hid HIX
  have HQ := Lib.hid hq
  have HONE := Lib.hid hone
  have HLL := Lib.hid hl
  have hixm : ixF (l.map (·.1)) nm < m + 1 := by omega
  have hOo := hO.outer
  rw [hl] at hOo
  have HINN := Lib.hid hO.inn
  clear HIX hixv hix hone hq hl hO
  generalize ixF (l.map (·.1)) nm = ix at *
  have hne1 : ¬ ((ix : Int) = -1) := by omega
  have hwi1 : IntKind.i64.wrap ((ix : Int) + 1) = (ix : Int) + 1 := IntWalk.i64_in _ (by omega)
  go_enter Try.func46, Try.ntmps46
  go_wp2_with fail
  refine HIXH.out.mono ?_; rintro e w1 ⟨rfl, hb1⟩
  have ho1 := own_later hOo hb1
  have hgr1 : w.grownBy w1 (some g) := grown_belowS hb1
  clear hOo hb1
  go_wp2_with fail
  obtain ⟨wo, rfl⟩ : ∃ wo : World, wo = w1 := ⟨_, rfl⟩
  go_loopg [5, 6] (m - ix) (fun gk v5 v6 wr => ∃ i j k : Nat, v5 = .int .i64 (i : Int) ∧ v6 = .int .i64 (j : Int) ∧ Hid (i = ix + k) ∧ i + 1 + gk = m + 1 ∧ Hid (j = i + 1) ∧ wr.ownsRow B 115 3 (.slice (some ⟨g, 0, none⟩) (m + 1) c) (m + 1) (dkC (shL l ix k)) ∧ w.grownBy wr (some g))
  case atStart => exact ⟨ix, ix + 1, 0, rfl, by go_num, Lib.hid rfl, by omega, Lib.hid rfl, by rw [shL_zero]; exact ho1, hgr1⟩
  case round =>
    clear ho1 hgr1
    obtain ⟨i, j, k, rfl, rfl, HI, hgk, HJ, ho, hg⟩ := hrel
    have HGK := Lib.hid hgk
    have hk : i ≤ m := by omega
    have hj1 : j ≤ m + 1 := by have := HJ.out; omega
    have hgB : B ≤ g := hgl.1
    have hlen := shL_len (l := l) (ix := ix) (k := k) (by have := HI.out; have := HLL.out; omega)
    have hbq := HQ.out.grown hg (fun e => by cases e; omega)
    clear hgk
    by_cases hjm : j < m + 1
    · have hjl : j < l.length := by have := HLL.out; omega
      have hji : ix + 1 + k = j := by have := HJ.out; have := HI.out; omega
      have hjs : j < (shL l ix k).length := by rw [hlen]; exact hjl
      have hsj : (shL l ix k)[j] = l[j] := by
        have h1 := shL_far (l := l) (ix := ix) (k := k) (j := j) (by omega) (by omega)
        rw [List.getElem?_eq_getElem hjs, List.getElem?_eq_getElem hjl] at h1
        injection h1
      have hstep := shL_step (l := l) (ix := ix) (k := k) (by omega)
      have hst2 : (shL l ix k).set i l[j] = shL l ix (k + 1) := by
        rw [← hstep, ← HI.out]
        simp only [hji]
      have hnm := HONE.out j hjl (by have := HI.out; have := HJ.out; omega)
      obtain ⟨qd, dd, hqd, _, _⟩ := (HINN.out _ (List.getElem_mem hjl)).val
      have c0 := ho.cellAt (j * 3 + 0) (by omega)
      have c1 := ho.cellAt (j * 3 + 1) (by omega)
      have c2 := ho.cellAt (j * 3 + 2) (by omega)
      rw [dkC_at hjs 0 _ rfl, hsj] at c0
      rw [dkC_at hjs 1 _ rfl, hsj, hqd] at c1
      rw [dkC_at hjs 2 _ rfl, hsj] at c2
      have his : i < (shL l ix k).length := by rw [hlen]; have := HLL.out; omega
      have hput := dkC_put his l[j].1 l[j].2
      rw [show (l[j].1, l[j].2) = l[j] from rfl, hst2, hqd] at hput
      have HPUT := Lib.hid hput
      clear hput hst2 hstep hsj hqd hlen hji
      generalize l[j].1 = f at *
      generalize f.dt.length = dl at *
      obtain ⟨nm', dt, sy⟩ := f
      dsimp only at *
      rw [Nat.add_zero] at c0
      obtain ⟨u0, hu0⟩ : ∃ u, (dkC (shL l ix k))[i * 3]? = some u := ⟨_, List.getElem?_eq_getElem (by rw [dkC_len]; omega)⟩
      obtain ⟨u1, hu1⟩ : ∃ u, (dkC (shL l ix k))[i * 3 + 1]? = some u := ⟨_, List.getElem?_eq_getElem (by rw [dkC_len]; omega)⟩
      obtain ⟨u2, hu2⟩ : ∃ u, (dkC (shL l ix k))[i * 3 + 2]? = some u := ⟨_, List.getElem?_eq_getElem (by rw [dkC_len]; omega)⟩
      have HU := Lib.hid (And.intro hu0 (And.intro hu1 hu2))
      clear hu0 hu1 hu2 his hjs
      have hj0 : (0 : Int) ≤ (j : Int) := by omega
      have hjn : (j : Int) < (m : Int) + 1 := by omega
      have hi0 : (0 : Int) ≤ (i : Int) := by omega
      have hin : (i : Int) < (m : Int) + 1 := by omega
      have hd1 : decide ((j : Int) < (m : Int) + 1) = true := by simp; omega
      have hd2 : decide (j < m + 1) = true := by simp; omega
      have hwj : IntKind.i64.wrap ((j : Int) + 1) = (j : Int) + 1 := IntWalk.i64_in _ (by omega)
      have hwi : IntKind.i64.wrap ((i : Int) + 1) = (i : Int) + 1 := IntWalk.i64_in _ (by omega)
      have HO := Lib.hid ho
      clear ho
      go_wp2_with fail
      refine (fclo_rem nm' nm _ _ q _ (hbq.next (alloc_below _ _))).mono ?_; rintro e w2 ⟨rfl, hb2⟩
      have hX7 : Bx (wr.alloc (.cells #[.string nm', .slice qd dl dd, .int .i64 (sy : Int)] 115)) wr.heap.size [.string nm', .slice qd dl dd, .int .i64 (sy : Int)] := bx_new wr _ _
      have hX8 := hX7.next hb2
      obtain ⟨hx0, hx1, hx2, _, _, _⟩ := hX8.three
      have ho2 := own_later (HO.out.alloc (.cells #[.string nm', .slice qd dl dd, .int .i64 (sy : Int)] 115)) hb2
      have hg2 : w.grownBy w2 (some g) := grown_trans hg (grown_trans (grown_belowS (alloc_below _ _)) (grown_belowS hb2))
      have d0 := ho2.cellAt (i * 3) (by omega)
      have d1 := ho2.cellAt (i * 3 + 1) (by omega)
      have d2 := ho2.cellAt (i * 3 + 2) (by omega)
      rw [HU.out.1] at d0
      rw [HU.out.2.1] at d1
      rw [HU.out.2.2] at d2
      have f0 := ho2.frozenAt (i * 3)
      have f1 := ho2.frozenAt (i * 3 + 1)
      have f2 := ho2.frozenAt (i * 3 + 2)
      have hst := (((ho2.stored (i * 3) (.string nm')).1.stored (i * 3 + 1) (.slice qd dl dd)).1.stored (i * 3 + 2) (.int .i64 (sy : Int))).1
      rw [← HPUT.out] at hst
      have HST := Lib.hid hst
      have hg3 := Lib.hid (grown_trans hg2 (grown_trans (grown_set (s := g) (i := i * 3) (u := .string nm')) (grown_trans (grown_set (s := g) (i := i * 3 + 1) (u := .slice qd dl dd)) (grown_set (s := g) (i := i * 3 + 2) (u := .int .i64 (sy : Int))))))
      have hne : (nm'.toList == nm.toList) = false := by simp [hnm]
      have hn1 : ¬ g = wr.heap.size := by have := hg.size; omega
      have hn2 : ¬ wr.heap.size = g := fun e => hn1 e.symm
      clear hX7 hX8 ho2 hg2 hst hnm hb2 c0 c1 c2
      go_wp2_with fail
      go_roundg (m - j)
      case measure => have := HGK.out; have := HJ.out; omega
      case rel => exact ⟨i + 1, j + 1, k + 1, by go_num, by go_num, Lib.hid (by rw [HI.out]; omega), by have := HJ.out; omega, Lib.hid (by rw [HJ.out]), HST.out, hg3.out⟩
    · obtain rfl : i = m := by have := HJ.out; omega
      have hjm : j = i + 1 := HJ.out
      subst hjm
      have hd1 : decide (((i + 1 : Nat) : Int) < (i : Int) + 1) = false := by simp
      have hd2 : decide (i + 1 < i + 1) = false := by simp
      have hcx : ¬ c = i := by omega
      have hk2 : k = i - ix := by have := HI.out; omega
      obtain ⟨x, hx⟩ := shL_end (l := l) (ix := ix) (m := i) HLL.out (by omega)
      rw [hk2, hx, dkC_append] at ho
      have hel : (dkC (l.eraseIdx ix)).length = i * 3 := by rw [dkC_len, List.length_eraseIdx_of_lt (by have := HLL.out; omega), HLL.out]; rfl
      have hxl : (dkC [x]).length = 3 := rfl
      have e0 : (dkC (l.eraseIdx ix) ++ dkC [x])[i * 3]? = some (.string x.1.nm) := by rw [List.getElem?_append_right (by omega), hel, Nat.sub_self]; rfl
      have e1 : (dkC (l.eraseIdx ix) ++ dkC [x])[i * 3 + 1]? = some x.2 := by rw [List.getElem?_append_right (by omega), hel, Nat.add_sub_cancel_left]; rfl
      have e2 : (dkC (l.eraseIdx ix) ++ dkC [x])[i * 3 + 2]? = some (.int .i64 (x.1.sy : Int)) := by rw [List.getElem?_append_right (by omega), hel, Nat.add_sub_cancel_left]; rfl
      have d0 := ho.cellAt (i * 3) (by omega)
      have d1 := ho.cellAt (i * 3 + 1) (by omega)
      have d2 := ho.cellAt (i * 3 + 2) (by omega)
      rw [e0] at d0
      rw [e1] at d1
      rw [e2] at d2
      have f0 := ho.frozenAt (i * 3)
      have f1 := ho.frozenAt (i * 3 + 1)
      have f2 := ho.frozenAt (i * 3 + 2)
      clear e0 e1 e2 hx hk2
      have hi0 : (0 : Int) ≤ (i : Int) := by omega
      have hic : (i : Int) ≤ (i : Int) + 1 := by omega
      have hicc : (i : Int) ≤ (c : Int) := by omega
      have HO := Lib.hid ho
      have HEL := Lib.hid (And.intro hel hxl)
      clear ho hel hxl
      have hclr := run_clear1 wr g (i * 3) (c - i) _ _ _ d0 d1 d2 f0 f1 f2 0
      have hst := (((HO.out.stored (i * 3) (.string ⟨#[]⟩)).1.stored (i * 3 + 1) (.slice none 0 0)).1.stored (i * 3 + 2) (.int .i64 0)).1
      have HST := Lib.hid hst
      clear hst
      go_wp2_with fail
      go_ret
      refine ⟨rfl, ?_, grown_trans hg (grown_trans (grown_set (s := g) (i := i * 3) (u := .string ⟨#[]⟩)) (grown_trans (grown_set (s := g) (i := i * 3 + 1) (u := .slice none 0 0)) (grown_set (s := g) (i := i * 3 + 2) (u := .int .i64 0))))⟩
      have h := HST.out
      rw [List.set_append_right _ _ (by rw [HEL.out.1]; omega), List.set_append_right _ _ (by rw [HEL.out.1]; omega), List.set_append_right _ _ (by rw [HEL.out.1]; omega)] at h
      exact own_shrink h (by simp [HEL.out.2])
end Go.Proofs.Ytmadpjmlcooinaa
