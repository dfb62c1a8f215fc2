/- The walk of disk.Remove. -/
import Derived.Test.YtmdbcknlipahgaaDoorFind
import Derived.Test.YtmdbcknlipahgaaDoorDk2
import Derived.IntWalk
import Derived.Deep.LoopGhost
import Derived.Lib.SliceRun
import Derived.Test.YtmdbcknlipahgaaDoorDSync
namespace Go.Proofs.YtmdbcknlipahgaaDoor
open Go.RowKit
/-- the files behind k moves -/
def shL (l : List (Fl × Value)) (ix k : Nat) : List (Fl × Value) := l.take ix ++ ((l.drop (ix + 1)).take k ++ l.drop (ix + k))
theorem shL_len {l : List (Fl × Value)} {ix k : Nat} (h : ix + 1 + k ≤ l.length) : (shL l ix k).length = l.length := by
  unfold shL
  simp only [List.length_append, List.length_take, List.length_drop]
  omega
theorem shL_far {l : List (Fl × Value)} {ix k j : Nat} (h : ix + 1 + k ≤ l.length) (hj : ix + k ≤ j) : (shL l ix k)[j]? = l[j]? := by
  unfold shL
  rw [List.getElem?_append_right (by rw [List.length_take]; omega), List.length_take, Nat.min_eq_left (by omega), List.getElem?_append_right (by rw [List.length_take, List.length_drop]; omega), List.length_take, List.length_drop, Nat.min_eq_left (by omega), List.getElem?_drop]
  congr 1; omega
theorem shL_pre {l : List (Fl × Value)} {ix k j : Nat} (h : ix + 1 + k ≤ l.length) (hj : j < ix) : (shL l ix k)[j]? = l[j]? := by
  unfold shL
  rw [List.getElem?_append_left (by rw [List.length_take]; omega), List.getElem?_take_of_lt hj]
theorem shL_mid {l : List (Fl × Value)} {ix k j : Nat} (h : ix + 1 + k ≤ l.length) (hj : ix ≤ j) (hk : j < ix + k) : (shL l ix k)[j]? = l[j + 1]? := by
  unfold shL
  rw [List.getElem?_append_right (by rw [List.length_take]; omega), List.length_take, Nat.min_eq_left (by omega), List.getElem?_append_left (by rw [List.length_take, List.length_drop, Nat.min_eq_left (by omega)]; omega), List.getElem?_take_of_lt (by omega), List.getElem?_drop]
  congr 1; omega
theorem shL_step {l : List (Fl × Value)} {ix k : Nat} (h : ix + 1 + k < l.length) : (shL l ix k).set (ix + k) l[ix + 1 + k] = shL l ix (k + 1) := by
  apply List.ext_getElem?
  intro j
  rw [List.getElem?_set, shL_len (by omega)]
  by_cases hj : ix + k = j
  · subst hj
    rw [if_pos rfl, if_pos (by omega), shL_mid (by omega) (by omega) (by omega), show ix + k + 1 = ix + 1 + k by omega, List.getElem?_eq_getElem h]
  · rw [if_neg hj]
    by_cases hlt : j < ix
    · rw [shL_pre (by omega) hlt, shL_pre (by omega) hlt]
    · by_cases hlt2 : j < ix + k
      · rw [shL_mid (by omega) (by omega) hlt2, shL_mid (by omega) (by omega) (by omega)]
      · rw [shL_far (by omega) (by omega), shL_far (by omega) (by omega)]
theorem shL_zero (l : List (Fl × Value)) (ix : Nat) : shL l ix 0 = l := by simp [shL]
theorem shL_end {l : List (Fl × Value)} {ix m : Nat} (h : l.length = m + 1) (hi : ix < m + 1) : ∃ x, shL l ix (m - ix) = l.eraseIdx ix ++ [x] := by
  refine ⟨l[m]'(by omega), ?_⟩
  unfold shL
  rw [← List.append_assoc, List.eraseIdx_eq_take_drop_succ]
  congr 1
  · congr 1
    exact List.take_of_length_le (by rw [List.length_drop]; omega)
  · rw [show ix + (m - ix) = m by omega, List.drop_eq_getElem_cons (by omega), List.drop_eq_nil_of_le (by omega)]
theorem dkC_put {l : List (Fl × Value)} {i : Nat} (hi : i < l.length) (f : Fl) (v : Value) : dkC (l.set i (f, v)) = (((dkC l).set (i * 3) (.string f.nm)).set (i * 3 + 1) v).set (i * 3 + 2) (.int .i64 (f.sy : Int)) := by
  have h1 := dkC_set (f' := { l[i].1 with nm := f.nm }) (v' := l[i].2) hi (j := 0) (by decide) (u := .string f.nm) rfl
  have h2 := dkC_set (l := l.set i ({ l[i].1 with nm := f.nm }, l[i].2)) (f' := { l[i].1 with nm := f.nm }) (v' := v) (i := i) (j := 1) (by rw [List.length_set]; exact hi) (by decide) (u := v) (by simp [flC])
  have h3 := dkC_set (l := l.set i ({ l[i].1 with nm := f.nm }, v)) (f' := f) (v' := v) (i := i) (j := 2) (by rw [List.length_set]; exact hi) (by decide) (u := .int .i64 (f.sy : Int)) (by simp [flC])
  rw [List.set_set] at h2 h3
  rw [h3, h2, h1]
  rfl
end Go.Proofs.YtmdbcknlipahgaaDoor
namespace Go.Proofs.YtmdbcknlipahgaaDoor
open Go.RowKit
theorem zero_file (w : World) : (zeroValue 121).run Tryd.prog w = .ok (.agg #[.string ⟨#[]⟩, .slice none 0 0, .int .i64 0]) w := by kernel_rfl
theorem run_clear1 (w : World) (g o c : Nat) (v0 v1 v2 : Value) (h0 : w.cell? ⟨g, o, none⟩ = some v0) (h1 : w.cell? ⟨g, o + 1, none⟩ = some v1) (h2 : w.cell? ⟨g, o + 2, none⟩ = some v2)
    (f0 : w.frozen? ⟨g, o, none⟩ = false) (f1 : w.frozen? ⟨g, o + 1, none⟩ = false) (f2 : w.frozen? ⟨g, o + 2, none⟩ = false) (ty : TypeId) :
    (Builtin.clear_ #[59] ty #[.slice (some ⟨g, o, none⟩) 1 c]).run Tryd.prog w = .ok (.tuple #[]) (((w.setCell ⟨g, o, none⟩ (.string ⟨#[]⟩)).setCell ⟨g, o + 1, none⟩ (.slice none 0 0)).setCell ⟨g, o + 2, none⟩ (.int .i64 0)) := by
  have hzc : (Builtin.zeroCells (Value.agg #[.string ⟨#[]⟩, .slice none 0 0, .int .i64 0]).cells 1).toList = [.string ⟨#[]⟩, .slice none 0 0, .int .i64 0] := by kernel_rfl
  have hst := run_storeCells_cells (P := Tryd.prog) g o [.string ⟨#[]⟩, .slice none 0 0, .int .i64 0] 0 w
    (fun j hj => by
      match j, hj with
      | 0, _ => show (w.cell? ⟨g, o + 0 + 0, none⟩).isSome = true; rw [Nat.add_zero, h0]; rfl
      | 1, _ => show (w.cell? ⟨g, o + 0 + 1, none⟩).isSome = true; rw [Nat.add_zero, h1]; rfl
      | 2, _ => show (w.cell? ⟨g, o + 0 + 2, none⟩).isSome = true; rw [Nat.add_zero, h2]; rfl)
    (fun j hj => by
      match j, hj with
      | 0, _ => show w.frozen? ⟨g, o + 0 + 0, none⟩ = false; rw [Nat.add_zero, f0]
      | 1, _ => show w.frozen? ⟨g, o + 0 + 1, none⟩ = false; rw [Nat.add_zero, f1]
      | 2, _ => show w.frozen? ⟨g, o + 0 + 2, none⟩ = false; rw [Nat.add_zero, f2])
    (by simp [Value.oneCell'])
  rw [Nat.add_zero] at hst
  simp [Builtin.clear_, run_underlying Tryd.underlying59, hzc, hst]
  rfl
set_option maxHeartbeats 8000000 in
set_option maxRecDepth 100000 in
theorem del_hit_ren (nm : ByteArray) (q B g c m : Nat) (l : List (Fl × Value)) (w : World) (hq : Bx w q [.string nm]) (hqB : q < B) (hO : MixDk w B (.slice (some ⟨g, 0, none⟩) (m + 1) c) l) (hl : l.length = m + 1) (hm : m ≤ 39)
    (hix : ixF (l.map (·.1)) nm < l.length) (hone : ∀ j, (h : j < l.length) → ixF (l.map (·.1)) nm < j → l[j].1.nm.toList ≠ nm.toList) :
    Calls Tryd.prog 66 #[.slice (some ⟨g, 0, none⟩) (m + 1) c, .func (Fn.func 68) #[] #[.pointer (some ⟨q, 0, none⟩)]] w fun e w' => e = .returned (.slice (some ⟨g, 0, none⟩) m c) ∧ w'.ownsRow B 121 3 (.slice (some ⟨g, 0, none⟩) m c) m (dkC (l.eraseIdx (ixF (l.map (·.1)) nm))) ∧ w.grownBy w' (some g) := by
  have hgl := hO.outer.lt g rfl
  obtain ⟨hc11, hc12⟩ : m + 1 ≤ c ∧ c ≤ 9223372036854775807 := by
    obtain ⟨_, _, _, h1, h2⟩ := own_ptr hO.outer (by omega)
    exact ⟨by omega, h2⟩
  have HIX := indexF_ren nm q (some ⟨g, 0, none⟩) c l w hq (by rw [hl]; exact hO.rd.mono (Nat.zero_le _)) (by omega)
  have hixv : ixV (l.map (·.1)) nm = (ixF (l.map (·.1)) nm : Int) := by unfold ixV; rw [if_pos (by rw [List.length_map]; exact hix)]
  rw [hixv, hl] at HIX
  have HIXH := Lib.hid HIX
  have HQ := Lib.hid hq
  have HONE := Lib.hid hone
  have HLL := Lib.hid hl
  have hixm : ixF (l.map (·.1)) nm < m + 1 := by omega
  have hOo := hO.outer
  rw [hl] at hOo
  have HINN := Lib.hid hO.inn
  clear HIX hixv hix hone hq hl hO
  generalize ixF (l.map (·.1)) nm = ix at *
  have hne1 : ¬ ((ix : Int) = -1) := by omega
  have hwi1 : IntKind.i64.wrap ((ix : Int) + 1) = (ix : Int) + 1 := IntWalk.i64_in _ (by omega)
  go_enter Tryd.func66, Tryd.ntmps66
  go_wp2_with fail
  refine HIXH.out.mono ?_; rintro e w1 ⟨rfl, hb1⟩
  have ho1 := own_later hOo hb1
  have hgr1 : w.grownBy w1 (some g) := grown_belowS hb1
  clear hOo hb1
  go_wp2_with fail
  obtain ⟨wo, rfl⟩ : ∃ wo : World, wo = w1 := ⟨_, rfl⟩
  go_loopg [5, 6] (m - ix) (fun gk v5 v6 wr => ∃ i j k : Nat, v5 = .int .i64 (i : Int) ∧ v6 = .int .i64 (j : Int) ∧ Hid (i = ix + k) ∧ i + 1 + gk = m + 1 ∧ Hid (j = i + 1) ∧ wr.ownsRow B 121 3 (.slice (some ⟨g, 0, none⟩) (m + 1) c) (m + 1) (dkC (shL l ix k)) ∧ w.grownBy wr (some g))
  case atStart => exact ⟨ix, ix + 1, 0, rfl, by go_num, Lib.hid rfl, by omega, Lib.hid rfl, by rw [shL_zero]; exact ho1, hgr1⟩
  case round =>
    clear ho1 hgr1
    obtain ⟨i, j, k, rfl, rfl, HI, hgk, HJ, ho, hg⟩ := hrel
    have HGK := Lib.hid hgk
    have hk : i ≤ m := by omega
    have hj1 : j ≤ m + 1 := by have := HJ.out; omega
    have hgB : B ≤ g := hgl.1
    have hlen := shL_len (l := l) (ix := ix) (k := k) (by have := HI.out; have := HLL.out; omega)
    have hbq := HQ.out.grown hg (fun e => by cases e; omega)
    clear hgk
    by_cases hjm : j < m + 1
    · have hjl : j < l.length := by have := HLL.out; omega
      have hji : ix + 1 + k = j := by have := HJ.out; have := HI.out; omega
      have hjs : j < (shL l ix k).length := by rw [hlen]; exact hjl
      have hsj : (shL l ix k)[j] = l[j] := by
        have h1 := shL_far (l := l) (ix := ix) (k := k) (j := j) (by omega) (by omega)
        rw [List.getElem?_eq_getElem hjs, List.getElem?_eq_getElem hjl] at h1
        injection h1
      have hstep := shL_step (l := l) (ix := ix) (k := k) (by omega)
      have hst2 : (shL l ix k).set i l[j] = shL l ix (k + 1) := by
        rw [← hstep, ← HI.out]
        simp only [hji]
      have hnm := HONE.out j hjl (by have := HI.out; have := HJ.out; omega)
      obtain ⟨qd, dd, hqd, _, _⟩ := (HINN.out _ (List.getElem_mem hjl)).val
      have c0 := ho.cellAt (j * 3 + 0) (by omega)
      have c1 := ho.cellAt (j * 3 + 1) (by omega)
      have c2 := ho.cellAt (j * 3 + 2) (by omega)
      rw [dkC_at hjs 0 _ rfl, hsj] at c0
      rw [dkC_at hjs 1 _ rfl, hsj, hqd] at c1
      rw [dkC_at hjs 2 _ rfl, hsj] at c2
      have his : i < (shL l ix k).length := by rw [hlen]; have := HLL.out; omega
      have hput := dkC_put his l[j].1 l[j].2
      rw [show (l[j].1, l[j].2) = l[j] from rfl, hst2, hqd] at hput
      have HPUT := Lib.hid hput
      clear hput hst2 hstep hsj hqd hlen hji
      generalize l[j].1 = f at *
      generalize f.dt.length = dl at *
      obtain ⟨nm', dt, sy⟩ := f
      dsimp only at *
      rw [Nat.add_zero] at c0
      obtain ⟨u0, hu0⟩ : ∃ u, (dkC (shL l ix k))[i * 3]? = some u := ⟨_, List.getElem?_eq_getElem (by rw [dkC_len]; omega)⟩
      obtain ⟨u1, hu1⟩ : ∃ u, (dkC (shL l ix k))[i * 3 + 1]? = some u := ⟨_, List.getElem?_eq_getElem (by rw [dkC_len]; omega)⟩
      obtain ⟨u2, hu2⟩ : ∃ u, (dkC (shL l ix k))[i * 3 + 2]? = some u := ⟨_, List.getElem?_eq_getElem (by rw [dkC_len]; omega)⟩
      have HU := Lib.hid (And.intro hu0 (And.intro hu1 hu2))
      clear hu0 hu1 hu2 his hjs
      have hj0 : (0 : Int) ≤ (j : Int) := by omega
      have hjn : (j : Int) < (m : Int) + 1 := by omega
      have hi0 : (0 : Int) ≤ (i : Int) := by omega
      have hin : (i : Int) < (m : Int) + 1 := by omega
      have hd1 : decide ((j : Int) < (m : Int) + 1) = true := by simp; omega
      have hd2 : decide (j < m + 1) = true := by simp; omega
      have hwj : IntKind.i64.wrap ((j : Int) + 1) = (j : Int) + 1 := IntWalk.i64_in _ (by omega)
      have hwi : IntKind.i64.wrap ((i : Int) + 1) = (i : Int) + 1 := IntWalk.i64_in _ (by omega)
      have HO := Lib.hid ho
      clear ho
      go_wp2_with fail
      refine (fclo_ren nm' nm _ _ q _ (hbq.next (alloc_below _ _))).mono ?_; rintro e w2 ⟨rfl, hb2⟩
      have hX7 : Bx (wr.alloc (.cells #[.string nm', .slice qd dl dd, .int .i64 (sy : Int)] 121)) wr.heap.size [.string nm', .slice qd dl dd, .int .i64 (sy : Int)] := bx_new wr _ _
      have hX8 := hX7.next hb2
      obtain ⟨hx0, hx1, hx2, _, _, _⟩ := hX8.three
      have ho2 := own_later (HO.out.alloc (.cells #[.string nm', .slice qd dl dd, .int .i64 (sy : Int)] 121)) hb2
      have hg2 : w.grownBy w2 (some g) := grown_trans hg (grown_trans (grown_belowS (alloc_below _ _)) (grown_belowS hb2))
      have d0 := ho2.cellAt (i * 3) (by omega)
      have d1 := ho2.cellAt (i * 3 + 1) (by omega)
      have d2 := ho2.cellAt (i * 3 + 2) (by omega)
      rw [HU.out.1] at d0
      rw [HU.out.2.1] at d1
      rw [HU.out.2.2] at d2
      have f0 := ho2.frozenAt (i * 3)
      have f1 := ho2.frozenAt (i * 3 + 1)
      have f2 := ho2.frozenAt (i * 3 + 2)
      have hst := (((ho2.stored (i * 3) (.string nm')).1.stored (i * 3 + 1) (.slice qd dl dd)).1.stored (i * 3 + 2) (.int .i64 (sy : Int))).1
      rw [← HPUT.out] at hst
      have HST := Lib.hid hst
      have hg3 := Lib.hid (grown_trans hg2 (grown_trans (grown_set (s := g) (i := i * 3) (u := .string nm')) (grown_trans (grown_set (s := g) (i := i * 3 + 1) (u := .slice qd dl dd)) (grown_set (s := g) (i := i * 3 + 2) (u := .int .i64 (sy : Int))))))
      have hne : (nm'.toList == nm.toList) = false := by simp [hnm]
      have hn1 : ¬ g = wr.heap.size := by have := hg.size; omega
      have hn2 : ¬ wr.heap.size = g := fun e => hn1 e.symm
      clear hX7 hX8 ho2 hg2 hst hnm hb2 c0 c1 c2
      go_wp2_with fail
      go_roundg (m - j)
      case measure => have := HGK.out; have := HJ.out; omega
      case rel => exact ⟨i + 1, j + 1, k + 1, by go_num, by go_num, Lib.hid (by rw [HI.out]; omega), by have := HJ.out; omega, Lib.hid (by rw [HJ.out]), HST.out, hg3.out⟩
    · obtain rfl : i = m := by have := HJ.out; omega
      have hjm : j = i + 1 := HJ.out
      subst hjm
      have hd1 : decide (((i + 1 : Nat) : Int) < (i : Int) + 1) = false := by simp
      have hd2 : decide (i + 1 < i + 1) = false := by simp
      have hcx : ¬ c = i := by omega
      have hk2 : k = i - ix := by have := HI.out; omega
      obtain ⟨x, hx⟩ := shL_end (l := l) (ix := ix) (m := i) HLL.out (by omega)
      rw [hk2, hx, dkC_append] at ho
      have hel : (dkC (l.eraseIdx ix)).length = i * 3 := by rw [dkC_len, List.length_eraseIdx_of_lt (by have := HLL.out; omega), HLL.out]; rfl
      have hxl : (dkC [x]).length = 3 := rfl
      have e0 : (dkC (l.eraseIdx ix) ++ dkC [x])[i * 3]? = some (.string x.1.nm) := by rw [List.getElem?_append_right (by omega), hel, Nat.sub_self]; rfl
      have e1 : (dkC (l.eraseIdx ix) ++ dkC [x])[i * 3 + 1]? = some x.2 := by rw [List.getElem?_append_right (by omega), hel, Nat.add_sub_cancel_left]; rfl
      have e2 : (dkC (l.eraseIdx ix) ++ dkC [x])[i * 3 + 2]? = some (.int .i64 (x.1.sy : Int)) := by rw [List.getElem?_append_right (by omega), hel, Nat.add_sub_cancel_left]; rfl
      have d0 := ho.cellAt (i * 3) (by omega)
      have d1 := ho.cellAt (i * 3 + 1) (by omega)
      have d2 := ho.cellAt (i * 3 + 2) (by omega)
      rw [e0] at d0
      rw [e1] at d1
      rw [e2] at d2
      have f0 := ho.frozenAt (i * 3)
      have f1 := ho.frozenAt (i * 3 + 1)
      have f2 := ho.frozenAt (i * 3 + 2)
      clear e0 e1 e2 hx hk2
      have hi0 : (0 : Int) ≤ (i : Int) := by omega
      have hic : (i : Int) ≤ (i : Int) + 1 := by omega
      have hicc : (i : Int) ≤ (c : Int) := by omega
      have HO := Lib.hid ho
      have HEL := Lib.hid (And.intro hel hxl)
      clear ho hel hxl
      have hclr := run_clear1 wr g (i * 3) (c - i) _ _ _ d0 d1 d2 f0 f1 f2 0
      have hst := (((HO.out.stored (i * 3) (.string ⟨#[]⟩)).1.stored (i * 3 + 1) (.slice none 0 0)).1.stored (i * 3 + 2) (.int .i64 0)).1
      have HST := Lib.hid hst
      clear hst
      go_wp2_with fail
      go_ret
      refine ⟨rfl, ?_, grown_trans hg (grown_trans (grown_set (s := g) (i := i * 3) (u := .string ⟨#[]⟩)) (grown_trans (grown_set (s := g) (i := i * 3 + 1) (u := .slice none 0 0)) (grown_set (s := g) (i := i * 3 + 2) (u := .int .i64 0))))⟩
      have h := HST.out
      rw [List.set_append_right _ _ (by rw [HEL.out.1]; omega), List.set_append_right _ _ (by rw [HEL.out.1]; omega), List.set_append_right _ _ (by rw [HEL.out.1]; omega)] at h
      exact own_shrink h (by simp [HEL.out.2])
set_option maxHeartbeats 4000000 in
set_option maxRecDepth 100000 in
theorem del_miss_ren (nm : ByteArray) (q c : Nat) (p : Option Addr) (l : List (Fl × Value)) (w : World) (hq : Bx w q [.string nm]) (hO : RDk w 0 (.slice p l.length c) l) (hm : l.length ≤ 40)
    (hix : ixF (l.map (·.1)) nm = l.length) :
    Calls Tryd.prog 66 #[.slice p l.length c, .func (Fn.func 68) #[] #[.pointer (some ⟨q, 0, none⟩)]] w fun e w' => e = .returned (.slice p l.length c) ∧ Below w.heap.size w w' := by
  have HIX := indexF_ren nm q p c l w hq hO hm
  have hixv : ixV (l.map (·.1)) nm = -1 := by unfold ixV; rw [if_neg (by rw [List.length_map]; omega)]
  rw [hixv] at HIX
  have HIXH := Lib.hid HIX
  clear HIX hixv hix hq hO
  go_enter Tryd.func66, Tryd.ntmps66
  go_wp2_with fail
  refine HIXH.out.mono ?_; rintro e w1 ⟨rfl, hb1⟩
  go_wp2_with fail
  go_ret
  exact ⟨rfl, hb1⟩
set_option maxHeartbeats 8000000 in
set_option maxRecDepth 100000 in
theorem del_hit_rem (nm : ByteArray) (q B g c m : Nat) (l : List (Fl × Value)) (w : World) (hq : Bx w q [.string nm]) (hqB : q < B) (hO : MixDk w B (.slice (some ⟨g, 0, none⟩) (m + 1) c) l) (hl : l.length = m + 1) (hm : m ≤ 39)
    (hix : ixF (l.map (·.1)) nm < l.length) (hone : ∀ j, (h : j < l.length) → ixF (l.map (·.1)) nm < j → l[j].1.nm.toList ≠ nm.toList) :
    Calls Tryd.prog 66 #[.slice (some ⟨g, 0, none⟩) (m + 1) c, .func (Fn.func 67) #[] #[.pointer (some ⟨q, 0, none⟩)]] w fun e w' => e = .returned (.slice (some ⟨g, 0, none⟩) m c) ∧ w'.ownsRow B 121 3 (.slice (some ⟨g, 0, none⟩) m c) m (dkC (l.eraseIdx (ixF (l.map (·.1)) nm))) ∧ w.grownBy w' (some g) := by
  have hgl := hO.outer.lt g rfl
  obtain ⟨hc11, hc12⟩ : m + 1 ≤ c ∧ c ≤ 9223372036854775807 := by
    obtain ⟨_, _, _, h1, h2⟩ := own_ptr hO.outer (by omega)
    exact ⟨by omega, h2⟩
  have HIX := indexF_rem nm q (some ⟨g, 0, none⟩) c l w hq (by rw [hl]; exact hO.rd.mono (Nat.zero_le _)) (by omega)
  have hixv : ixV (l.map (·.1)) nm = (ixF (l.map (·.1)) nm : Int) := by unfold ixV; rw [if_pos (by rw [List.length_map]; exact hix)]
  rw [hixv, hl] at HIX
  have HIXH := Lib.hid HIX
  have HQ := Lib.hid hq
  have HONE := Lib.hid hone
  have HLL := Lib.hid hl
  have hixm : ixF (l.map (·.1)) nm < m + 1 := by omega
  have hOo := hO.outer
  rw [hl] at hOo
  have HINN := Lib.hid hO.inn
  clear HIX hixv hix hone hq hl hO
  generalize ixF (l.map (·.1)) nm = ix at *
  have hne1 : ¬ ((ix : Int) = -1) := by omega
  have hwi1 : IntKind.i64.wrap ((ix : Int) + 1) = (ix : Int) + 1 := IntWalk.i64_in _ (by omega)
  go_enter Tryd.func66, Tryd.ntmps66
  go_wp2_with fail
  refine HIXH.out.mono ?_; rintro e w1 ⟨rfl, hb1⟩
  have ho1 := own_later hOo hb1
  have hgr1 : w.grownBy w1 (some g) := grown_belowS hb1
  clear hOo hb1
  go_wp2_with fail
  obtain ⟨wo, rfl⟩ : ∃ wo : World, wo = w1 := ⟨_, rfl⟩
  go_loopg [5, 6] (m - ix) (fun gk v5 v6 wr => ∃ i j k : Nat, v5 = .int .i64 (i : Int) ∧ v6 = .int .i64 (j : Int) ∧ Hid (i = ix + k) ∧ i + 1 + gk = m + 1 ∧ Hid (j = i + 1) ∧ wr.ownsRow B 121 3 (.slice (some ⟨g, 0, none⟩) (m + 1) c) (m + 1) (dkC (shL l ix k)) ∧ w.grownBy wr (some g))
  case atStart => exact ⟨ix, ix + 1, 0, rfl, by go_num, Lib.hid rfl, by omega, Lib.hid rfl, by rw [shL_zero]; exact ho1, hgr1⟩
  case round =>
    clear ho1 hgr1
    obtain ⟨i, j, k, rfl, rfl, HI, hgk, HJ, ho, hg⟩ := hrel
    have HGK := Lib.hid hgk
    have hk : i ≤ m := by omega
    have hj1 : j ≤ m + 1 := by have := HJ.out; omega
    have hgB : B ≤ g := hgl.1
    have hlen := shL_len (l := l) (ix := ix) (k := k) (by have := HI.out; have := HLL.out; omega)
    have hbq := HQ.out.grown hg (fun e => by cases e; omega)
    clear hgk
    by_cases hjm : j < m + 1
    · have hjl : j < l.length := by have := HLL.out; omega
      have hji : ix + 1 + k = j := by have := HJ.out; have := HI.out; omega
      have hjs : j < (shL l ix k).length := by rw [hlen]; exact hjl
      have hsj : (shL l ix k)[j] = l[j] := by
        have h1 := shL_far (l := l) (ix := ix) (k := k) (j := j) (by omega) (by omega)
        rw [List.getElem?_eq_getElem hjs, List.getElem?_eq_getElem hjl] at h1
        injection h1
      have hstep := shL_step (l := l) (ix := ix) (k := k) (by omega)
      have hst2 : (shL l ix k).set i l[j] = shL l ix (k + 1) := by
        rw [← hstep, ← HI.out]
        simp only [hji]
      have hnm := HONE.out j hjl (by have := HI.out; have := HJ.out; omega)
      obtain ⟨qd, dd, hqd, _, _⟩ := (HINN.out _ (List.getElem_mem hjl)).val
      have c0 := ho.cellAt (j * 3 + 0) (by omega)
      have c1 := ho.cellAt (j * 3 + 1) (by omega)
      have c2 := ho.cellAt (j * 3 + 2) (by omega)
      rw [dkC_at hjs 0 _ rfl, hsj] at c0
      rw [dkC_at hjs 1 _ rfl, hsj, hqd] at c1
      rw [dkC_at hjs 2 _ rfl, hsj] at c2
      have his : i < (shL l ix k).length := by rw [hlen]; have := HLL.out; omega
      have hput := dkC_put his l[j].1 l[j].2
      rw [show (l[j].1, l[j].2) = l[j] from rfl, hst2, hqd] at hput
      have HPUT := Lib.hid hput
      clear hput hst2 hstep hsj hqd hlen hji
      generalize l[j].1 = f at *
      generalize f.dt.length = dl at *
      obtain ⟨nm', dt, sy⟩ := f
      dsimp only at *
      rw [Nat.add_zero] at c0
      obtain ⟨u0, hu0⟩ : ∃ u, (dkC (shL l ix k))[i * 3]? = some u := ⟨_, List.getElem?_eq_getElem (by rw [dkC_len]; omega)⟩
      obtain ⟨u1, hu1⟩ : ∃ u, (dkC (shL l ix k))[i * 3 + 1]? = some u := ⟨_, List.getElem?_eq_getElem (by rw [dkC_len]; omega)⟩
      obtain ⟨u2, hu2⟩ : ∃ u, (dkC (shL l ix k))[i * 3 + 2]? = some u := ⟨_, List.getElem?_eq_getElem (by rw [dkC_len]; omega)⟩
      have HU := Lib.hid (And.intro hu0 (And.intro hu1 hu2))
      clear hu0 hu1 hu2 his hjs
      have hj0 : (0 : Int) ≤ (j : Int) := by omega
      have hjn : (j : Int) < (m : Int) + 1 := by omega
      have hi0 : (0 : Int) ≤ (i : Int) := by omega
      have hin : (i : Int) < (m : Int) + 1 := by omega
      have hd1 : decide ((j : Int) < (m : Int) + 1) = true := by simp; omega
      have hd2 : decide (j < m + 1) = true := by simp; omega
      have hwj : IntKind.i64.wrap ((j : Int) + 1) = (j : Int) + 1 := IntWalk.i64_in _ (by omega)
      have hwi : IntKind.i64.wrap ((i : Int) + 1) = (i : Int) + 1 := IntWalk.i64_in _ (by omega)
      have HO := Lib.hid ho
      clear ho
      go_wp2_with fail
      refine (fclo_rem nm' nm _ _ q _ (hbq.next (alloc_below _ _))).mono ?_; rintro e w2 ⟨rfl, hb2⟩
      have hX7 : Bx (wr.alloc (.cells #[.string nm', .slice qd dl dd, .int .i64 (sy : Int)] 121)) wr.heap.size [.string nm', .slice qd dl dd, .int .i64 (sy : Int)] := bx_new wr _ _
      have hX8 := hX7.next hb2
      obtain ⟨hx0, hx1, hx2, _, _, _⟩ := hX8.three
      have ho2 := own_later (HO.out.alloc (.cells #[.string nm', .slice qd dl dd, .int .i64 (sy : Int)] 121)) hb2
      have hg2 : w.grownBy w2 (some g) := grown_trans hg (grown_trans (grown_belowS (alloc_below _ _)) (grown_belowS hb2))
      have d0 := ho2.cellAt (i * 3) (by omega)
      have d1 := ho2.cellAt (i * 3 + 1) (by omega)
      have d2 := ho2.cellAt (i * 3 + 2) (by omega)
      rw [HU.out.1] at d0
      rw [HU.out.2.1] at d1
      rw [HU.out.2.2] at d2
      have f0 := ho2.frozenAt (i * 3)
      have f1 := ho2.frozenAt (i * 3 + 1)
      have f2 := ho2.frozenAt (i * 3 + 2)
      have hst := (((ho2.stored (i * 3) (.string nm')).1.stored (i * 3 + 1) (.slice qd dl dd)).1.stored (i * 3 + 2) (.int .i64 (sy : Int))).1
      rw [← HPUT.out] at hst
      have HST := Lib.hid hst
      have hg3 := Lib.hid (grown_trans hg2 (grown_trans (grown_set (s := g) (i := i * 3) (u := .string nm')) (grown_trans (grown_set (s := g) (i := i * 3 + 1) (u := .slice qd dl dd)) (grown_set (s := g) (i := i * 3 + 2) (u := .int .i64 (sy : Int))))))
      have hne : (nm'.toList == nm.toList) = false := by simp [hnm]
      have hn1 : ¬ g = wr.heap.size := by have := hg.size; omega
      have hn2 : ¬ wr.heap.size = g := fun e => hn1 e.symm
      clear hX7 hX8 ho2 hg2 hst hnm hb2 c0 c1 c2
      go_wp2_with fail
      go_roundg (m - j)
      case measure => have := HGK.out; have := HJ.out; omega
      case rel => exact ⟨i + 1, j + 1, k + 1, by go_num, by go_num, Lib.hid (by rw [HI.out]; omega), by have := HJ.out; omega, Lib.hid (by rw [HJ.out]), HST.out, hg3.out⟩
    · obtain rfl : i = m := by have := HJ.out; omega
      have hjm : j = i + 1 := HJ.out
      subst hjm
      have hd1 : decide (((i + 1 : Nat) : Int) < (i : Int) + 1) = false := by simp
      have hd2 : decide (i + 1 < i + 1) = false := by simp
      have hcx : ¬ c = i := by omega
      have hk2 : k = i - ix := by have := HI.out; omega
      obtain ⟨x, hx⟩ := shL_end (l := l) (ix := ix) (m := i) HLL.out (by omega)
      rw [hk2, hx, dkC_append] at ho
      have hel : (dkC (l.eraseIdx ix)).length = i * 3 := by rw [dkC_len, List.length_eraseIdx_of_lt (by have := HLL.out; omega), HLL.out]; rfl
      have hxl : (dkC [x]).length = 3 := rfl
      have e0 : (dkC (l.eraseIdx ix) ++ dkC [x])[i * 3]? = some (.string x.1.nm) := by rw [List.getElem?_append_right (by omega), hel, Nat.sub_self]; rfl
      have e1 : (dkC (l.eraseIdx ix) ++ dkC [x])[i * 3 + 1]? = some x.2 := by rw [List.getElem?_append_right (by omega), hel, Nat.add_sub_cancel_left]; rfl
      have e2 : (dkC (l.eraseIdx ix) ++ dkC [x])[i * 3 + 2]? = some (.int .i64 (x.1.sy : Int)) := by rw [List.getElem?_append_right (by omega), hel, Nat.add_sub_cancel_left]; rfl
      have d0 := ho.cellAt (i * 3) (by omega)
      have d1 := ho.cellAt (i * 3 + 1) (by omega)
      have d2 := ho.cellAt (i * 3 + 2) (by omega)
      rw [e0] at d0
      rw [e1] at d1
      rw [e2] at d2
      have f0 := ho.frozenAt (i * 3)
      have f1 := ho.frozenAt (i * 3 + 1)
      have f2 := ho.frozenAt (i * 3 + 2)
      clear e0 e1 e2 hx hk2
      have hi0 : (0 : Int) ≤ (i : Int) := by omega
      have hic : (i : Int) ≤ (i : Int) + 1 := by omega
      have hicc : (i : Int) ≤ (c : Int) := by omega
      have HO := Lib.hid ho
      have HEL := Lib.hid (And.intro hel hxl)
      clear ho hel hxl
      have hclr := run_clear1 wr g (i * 3) (c - i) _ _ _ d0 d1 d2 f0 f1 f2 0
      have hst := (((HO.out.stored (i * 3) (.string ⟨#[]⟩)).1.stored (i * 3 + 1) (.slice none 0 0)).1.stored (i * 3 + 2) (.int .i64 0)).1
      have HST := Lib.hid hst
      clear hst
      go_wp2_with fail
      go_ret
      refine ⟨rfl, ?_, grown_trans hg (grown_trans (grown_set (s := g) (i := i * 3) (u := .string ⟨#[]⟩)) (grown_trans (grown_set (s := g) (i := i * 3 + 1) (u := .slice none 0 0)) (grown_set (s := g) (i := i * 3 + 2) (u := .int .i64 0))))⟩
      have h := HST.out
      rw [List.set_append_right _ _ (by rw [HEL.out.1]; omega), List.set_append_right _ _ (by rw [HEL.out.1]; omega), List.set_append_right _ _ (by rw [HEL.out.1]; omega)] at h
      exact own_shrink h (by simp [HEL.out.2])
end Go.Proofs.YtmdbcknlipahgaaDoor
namespace Go.Proofs.YtmdbcknlipahgaaDoor
open Go.RowKit
theorem map_erase (l : List (Fl × Value)) (i : Nat) : (l.eraseIdx i).map (·.1) = (l.map (·.1)).eraseIdx i := by
  induction l generalizing i with
  | nil => rfl
  | cons a l ih => cases i with
    | zero => rfl
    | succ i => simp [ih]
theorem after_ix {fs : List Fl} {nm : ByteArray} {j : Nat} (h : fs.Pairwise (fun a b => a.nm.toList ≠ b.nm.toList)) (hj : j < fs.length) (hlt : ixF fs nm < j) : fs[j].nm.toList ≠ nm.toList := fun e => by
  have h1 := List.pairwise_iff_getElem.1 h (ixF fs nm) j (by omega) hj hlt
  exact h1 (by rw [ixF_at (by omega), e])
theorem rmF_erase {fs : List Fl} {nm : ByteArray} (h : fs.Pairwise (fun a b => a.nm.toList ≠ b.nm.toList)) (hi : ixF fs nm < fs.length) : rmF fs nm = fs.eraseIdx (ixF fs nm) := by
  induction fs with
  | nil => simp at hi
  | cons f l ih =>
    rw [List.pairwise_cons] at h
    unfold rmF ixF
    by_cases hf : f.nm.toList = nm.toList
    · rw [if_pos hf, List.filter_cons_of_neg (by simp [hf]), List.eraseIdx_cons_zero]
      exact List.filter_eq_self.2 (fun x hx => by have := h.1 x hx; rw [hf] at this; simpa using fun e => this e.symm)
    · rw [if_neg hf, List.filter_cons_of_pos (by simp [hf]), List.eraseIdx_cons_succ]
      congr 1
      refine ih h.2 ?_
      simpa [ixF, if_neg hf] using hi
set_option maxHeartbeats 4000000 in
set_option maxRecDepth 100000 in
theorem remove_miss (nm : ByteArray) (v : Value) (l : List (Fl × Value)) (w : World) (hR : RDk w 0 v l) (hD : DkOk (l.map (·.1))) (hi : ixF (l.map (·.1)) nm = l.length) :
    Calls Tryd.prog 46 #[.agg #[v], .string nm] w fun e w' => e = .returned (.tuple #[.agg #[.slice none 0 0], .int .i64 7]) ∧ Below w.heap.size w w' := by
  have hval := hR.val
  obtain ⟨p, c, rfl, hcc1, hcc2⟩ := hval
  have HO := Lib.hid (fun w' (hb : Below w.heap.size w w') => dopen_ok _ l w' (hR.later hb) hD)
  have hn40 := hD.len
  rw [List.length_map] at hn40
  obtain ⟨fs, hfs⟩ : ∃ fs, fs = l.map (·.1) := ⟨_, rfl⟩
  rw [← hfs] at hi HO
  have HI := Lib.hid hi
  have hfl : fs.length = l.length := by rw [hfs, List.length_map]
  have HFL := Lib.hid hfl
  have HFS := Lib.hid hfs
  clear hR hD hi hfs hfl
  obtain ⟨b1, B1, z1⟩ := boxed0 w [.slice p l.length c] 61
  have hs1 : (w.alloc (.cells #[.slice p l.length c] 61)).heap.size = w.heap.size + 1 := by simp
  obtain ⟨b2, B2, z2⟩ := boxed0 (w.alloc (.cells #[.slice p l.length c] 61)) [.string nm] 9
  have hs2 : ((w.alloc (.cells #[.slice p l.length c] 61)).alloc (.cells #[.string nm] 9)).heap.size = w.heap.size + 1 + 1 := by simp
  obtain ⟨b3, B3, z3⟩ := boxed0 ((w.alloc (.cells #[.slice p l.length c] 61)).alloc (.cells #[.string nm] 9)) [.slice none 0 0] 61
  have X0 := (B1.next b2).next b3
  have N0 := B2.next b3
  have hx0 := X0.one
  have hbw := (b1.trans (b2.mono (by omega))).trans (b3.mono (by omega))
  rw [hs1] at N0
  rw [hs2] at B3 z3
  clear b1 b2 b3 B1 B2 z1 z2 hs1 hs2
  go_enter Tryd.func46, Tryd.ntmps46
  go_wp2_with fail
  refine (HO.out _ hbw).mono ?_; rintro e w1 ⟨h, p1, c1, l1, rfl, hl1, hh1, hh2, X1, O1, hb1⟩
  have hw1 := hbw.trans (hb1.mono hbw.size)
  have N1 := N0.next hb1
  have Y4 := B3.next hb1
  have hl1len : l1.length = l.length := by rw [← HFL.out, ← hl1.out, List.length_map]
  have hL1 := Lib.hid hl1.out
  clear hx0 X0 N0 B3 hbw hb1 hl1
  generalize hW0 : (((w.alloc (.cells #[.slice p l.length c] 61)).alloc (.cells #[.string nm] 9)).alloc (.cells #[.slice none 0 0] 61)) = W0 at *
  have hws : w.heap.size + 1 + 1 < h := by omega
  clear hW0
  have hn1 := N1.one
  have hil : ixF (l1.map (·.1)) nm = l1.length := by rw [hL1.out, hl1len]; exact HI.out
  have HF := Lib.hid (find_miss h nm p1 c1 l1 w1 X1 (O1.rd.mono (Nat.zero_le _)) (by omega) hil)
  clear hil X1 O1 hl1len
  go_wp2_with fail
  refine HF.out.mono ?_; rintro e w2 ⟨rfl, hb2⟩
  have Y5 := Y4.next hb2
  have hw2 := hw1.trans (hb2.mono hw1.size)
  obtain ⟨yt, hyt⟩ := Y5
  have hyf : w2.frozen? ⟨w.heap.size + 1 + 1, 0, none⟩ = false := by simp [World.frozen?, hyt]
  have hyc : w2.cell? ⟨w.heap.size + 1 + 1, 0, none⟩ = some (.slice none 0 0) := by simp [World.cell?, hyt]
  go_wp2_with fail
  refine bodyPost_ret (v := .tuple #[.agg #[.slice none 0 0], .int .i64 7]) ?_ rfl ⟨rfl, ?_⟩
  · rw [results_cell_tmp rfl]
    go_simp
  · exact hw2.setCell (by show w.heap.size ≤ w.heap.size + 1 + 1; omega) _
set_option maxHeartbeats 4000000 in
set_option maxRecDepth 100000 in
theorem remove_hit (nm : ByteArray) (v : Value) (l : List (Fl × Value)) (w : World) (hR : RDk w 0 v l) (hD : DkOk (l.map (·.1))) (hi : ixF (l.map (·.1)) nm < l.length) :
    Calls Tryd.prog 46 #[.agg #[v], .string nm] w fun e w' => ∃ p c l', e = .returned (.tuple #[.agg #[.slice p l'.length c], .int .i64 0]) ∧ Hid (l'.map (·.1) = rmF (l.map (·.1)) nm) ∧ RDk w' w.heap.size (.slice p l'.length c) l' ∧ Below w.heap.size w w' := by
  have hval := hR.val
  obtain ⟨p, c, rfl, hcc1, hcc2⟩ := hval
  have HO := Lib.hid (fun w' (hb : Below w.heap.size w w') => dopen_ok _ l w' (hR.later hb) hD)
  have hn40 := hD.len
  rw [List.length_map] at hn40
  obtain ⟨fs, hfs⟩ : ∃ fs, fs = l.map (·.1) := ⟨_, rfl⟩
  rw [← hfs] at hi HO
  have HI := Lib.hid hi
  have hfl : fs.length = l.length := by rw [hfs, List.length_map]
  have HFL := Lib.hid hfl
  have HFS := Lib.hid hfs
  have HDO := Lib.hid hD.one
  clear hR hD hi hfs hfl
  have hRM := Lib.hid (show rmF fs nm = fs.eraseIdx (ixF fs nm) from by rw [HFS.out]; exact rmF_erase HDO.out (by rw [List.length_map]; rw [← HFS.out]; exact HI.out))
  obtain ⟨b1, B1, z1⟩ := boxed0 w [.slice p l.length c] 61
  have hs1 : (w.alloc (.cells #[.slice p l.length c] 61)).heap.size = w.heap.size + 1 := by simp
  obtain ⟨b2, B2, z2⟩ := boxed0 (w.alloc (.cells #[.slice p l.length c] 61)) [.string nm] 9
  have hs2 : ((w.alloc (.cells #[.slice p l.length c] 61)).alloc (.cells #[.string nm] 9)).heap.size = w.heap.size + 1 + 1 := by simp
  obtain ⟨b3, B3, z3⟩ := boxed0 ((w.alloc (.cells #[.slice p l.length c] 61)).alloc (.cells #[.string nm] 9)) [.slice none 0 0] 61
  have X0 := (B1.next b2).next b3
  have N0 := B2.next b3
  have hx0 := X0.one
  have hbw := (b1.trans (b2.mono (by omega))).trans (b3.mono (by omega))
  rw [hs1] at N0
  rw [hs2] at B3 z3
  clear b1 b2 b3 B1 B2 z1 z2 hs1 hs2
  go_enter Tryd.func46, Tryd.ntmps46
  go_wp2_with fail
  refine (HO.out _ hbw).mono ?_; rintro e w1 ⟨h, p1, c1, l1, rfl, hl1, hh1, hh2, X1, O1, hb1⟩
  have hw1 := hbw.trans (hb1.mono hbw.size)
  have N1 := N0.next hb1
  have Y4 := B3.next hb1
  have hl1len : l1.length = l.length := by rw [← HFL.out, ← hl1.out, List.length_map]
  have hL1 := Lib.hid hl1.out
  clear hx0 X0 N0 B3 hbw hb1 hl1
  generalize hW0 : (((w.alloc (.cells #[.slice p l.length c] 61)).alloc (.cells #[.string nm] 9)).alloc (.cells #[.slice none 0 0] 61)) = W0 at *
  have hws : w.heap.size + 1 + 1 < h := by omega
  clear hW0
  have hn1 := N1.one
  obtain ⟨m, hm⟩ : ∃ m, l1.length = m + 1 := ⟨l1.length - 1, by have := HI.out; omega⟩
  have hil : ixF (l1.map (·.1)) nm < l1.length := by rw [hL1.out, hl1len]; exact HI.out
  obtain ⟨g, rfl, _, hc11, hc12⟩ := own_ptr O1.outer (by omega)
  have HF := Lib.hid (find_hit h nm g 0 c1 l1 w1 X1 (O1.rd.mono (Nat.zero_le _)) (by omega) hil)
  have hone1 : ∀ j, (hj : j < l1.length) → ixF (l1.map (·.1)) nm < j → l1[j].1.nm.toList ≠ nm.toList := by
    intro j hj hlt
    have h1 := HDO.out
    rw [← HFS.out, ← hL1.out] at h1
    have h2 := after_ix h1 (j := j) (by rw [List.length_map]; exact hj) hlt
    rwa [List.getElem_map] at h2
  have HDL := Lib.hid (fun w' (hn : Bx w' (w.heap.size + 1) [.string nm]) (hO : MixDk w' (h + 1) (.slice (some ⟨g, 0, none⟩) (m + 1) c1) l1) => del_hit_rem nm (w.heap.size + 1) (h + 1) g c1 m l1 w' hn (by omega) hO hm (by omega) hil hone1)
  have hgl := O1.outer.lt g rfl
  have hgh : h + 1 ≤ g := hgl.1
  have HIX := Lib.hid (show ixF (l1.map (·.1)) nm = ixF fs nm by rw [hL1.out])
  have HO1 := Lib.hid O1
  have HM := Lib.hid hm
  have HL1L := Lib.hid hl1len
  clear hone1 O1 hm hl1len
  generalize ixF (l1.map (·.1)) nm = ix at *
  go_wp2_with fail
  refine HF.out.mono ?_; rintro e w2 ⟨rfl, hb2⟩
  have X2 := X1.next hb2
  have N2 := N1.next hb2
  have Y5 := Y4.next hb2
  have O2 := (HO1.out.later hb2).mix
  have hw2 := hw1.trans (hb2.mono hw1.size)
  have hx2 := X2.one
  have hd := HDL.out w2 N2 (by rw [← HM.out]; exact O2)
  have HD2 := Lib.hid hd
  rw [HM.out] at hx2
  clear hd
  go_wp2_with fail
  refine HD2.out.mono ?_; rintro e w3 ⟨rfl, ho3, hg3⟩
  have X3 := X2.grown hg3 (fun e => by cases e; omega)
  have Y6 := Y5.grown hg3 (fun e => by cases e; omega)
  have hw3 := hw2.grown hg3 hw2.size (fun j e => by cases e; omega)
  obtain ⟨xt, hxt⟩ := X3
  have hxf : w3.frozen? ⟨h, 0, none⟩ = false := by simp [World.frozen?, hxt]
  have hxc : w3.cell? ⟨h, 0, none⟩ = some (.slice (some ⟨g, 0, none⟩) l1.length c1) := by simp [World.cell?, hxt]
  obtain ⟨yt, hyt⟩ := Y6
  have hyf : w3.frozen? ⟨w.heap.size + 1 + 1, 0, none⟩ = false := by simp [World.frozen?, hyt]
  have hyc : w3.cell? ⟨w.heap.size + 1 + 1, 0, none⟩ = some (.slice none 0 0) := by simp [World.cell?, hyt]
  have hne1 : ¬ h = w.heap.size + 1 + 1 := by omega
  have hne2 : ¬ w.heap.size + 1 + 1 = h := by omega
  have hel : (l1.eraseIdx ix).length = m := by rw [List.length_eraseIdx_of_lt (by have := HM.out; omega), HM.out]; rfl
  have hmix : MixDk w3 (h + 1) (.slice (some ⟨g, 0, none⟩) (l1.eraseIdx ix).length c1) (l1.eraseIdx ix) := ⟨by rw [hel]; exact ho3, fun x hx => (O2.inn x (List.mem_of_mem_eraseIdx hx)).grown hg3 (fun k hk e => by cases e; exact O2.ap x (List.mem_of_mem_eraseIdx hx) g hk rfl), fun x hx k hk e => O2.ap x (List.mem_of_mem_eraseIdx hx) k hk (by cases e; rfl)⟩
  have HMIX := Lib.hid hmix
  have HEL := Lib.hid hel
  have HMP := Lib.hid (show (l1.eraseIdx ix).map (·.1) = rmF (l.map (·.1)) nm from by
    have h1 := hRM.out
    rw [← HIX.out, ← hL1.out] at h1
    rw [← HFS.out, ← hL1.out, h1]
    exact map_erase _ _)
  have HW3 := Lib.hid hw3
  clear hmix hel ho3 hg3 hxt hyt O2 hw3 X2 N2 Y5
  go_wp2_with fail
  refine bodyPost_ret (v := .tuple #[.agg #[.slice (some ⟨g, 0, none⟩) m c1], .int .i64 0]) ?_ rfl ⟨some ⟨g, 0, none⟩, c1, l1.eraseIdx ix, by rw [HEL.out], HMP, ?_, ?_⟩
  · rw [results_cell_tmp rfl]
    go_simp
  · refine RDk.mono (B := h + 1) ?_ (by omega)
    exact ((HMIX.out.setCell (by show h < h + 1; omega) _).setCell (by show w.heap.size + 1 + 1 < h + 1; omega) _).rd
  · exact (HW3.out.setCell (by show w.heap.size ≤ h; omega) _).setCell (by show w.heap.size ≤ w.heap.size + 1 + 1; omega) _
end Go.Proofs.YtmdbcknlipahgaaDoor
