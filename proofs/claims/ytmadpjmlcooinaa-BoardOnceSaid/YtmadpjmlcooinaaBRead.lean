/- The walk of board.read. -/
import Derived.Test.YtmadpjmlcooinaaBOpen
import Derived.Deep.RegionHeld3
namespace Go.Proofs.Ytmadpjmlcooinaa
open Go.RowKit
/-- by worker: where its report lies; nil: none -/
structure ByOk (W b off : Nat) (rs : List Rp) (ps : List Value) : Prop where
  len : ps.length = W
  hit : ∀ (j : Nat) (r : Rp), rs[j]? = some r → ps[r.wk]? = some (.pointer (some ⟨b, off + j * 7, none⟩))
  miss : ∀ i, i < W → (∀ r ∈ rs, r.wk ≠ i) → ps[i]? = some (.pointer none)
theorem ByOk.start (W b off : Nat) : ByOk W b off [] (List.replicate W (.pointer none)) :=
  ⟨by simp, fun j r h => by simp at h, fun i hi _ => by rw [List.getElem?_replicate, if_pos hi]⟩
theorem ByOk.step {W b off k : Nat} {rs : List Rp} {ps : List Value} (h : ByOk W b off (rs.take k) ps) (hk : k < rs.length) (hw : rs[k].wk < W) (hone : ∀ r ∈ rs.take k, r.wk ≠ rs[k].wk) :
    ByOk W b off (rs.take (k + 1)) (ps.set rs[k].wk (.pointer (some ⟨b, off + k * 7, none⟩))) := by
  refine ⟨by rw [List.length_set]; exact h.len, fun j r hj => ?_, fun i hi hm => ?_⟩
  · have hjl := (List.getElem?_eq_some_iff.1 hj).1
    rw [List.length_take] at hjl
    rw [List.getElem?_take_of_lt (by omega)] at hj
    by_cases hjk : j = k
    · subst hjk
      rw [List.getElem?_eq_getElem hk] at hj
      cases hj
      rw [List.getElem?_set, if_pos rfl, if_pos (by rw [h.len]; exact hw)]
    · have hj' : (rs.take k)[j]? = some r := by rw [List.getElem?_take_of_lt (by omega)]; exact hj
      rw [List.getElem?_set, if_neg (fun e => hone r (List.mem_of_getElem? hj') e.symm)]
      exact h.hit j r hj'
  · have h1 : rs[k].wk ≠ i := hm _ (by rw [List.take_succ_eq_append_getElem hk]; exact List.mem_append_right _ (List.mem_singleton.2 rfl))
    rw [List.getElem?_set, if_neg h1]
    exact h.miss i hi (fun r hr => hm r (by rw [List.take_succ_eq_append_getElem hk]; exact List.mem_append_left _ hr))
theorem inf_ptr : (Try.prog.info? 105).map (fun i => (i.zero, i.size, i.bytes)) = some (some (.pointer none), 1, 8) := by kernel_rfl
theorem BdOk.apart {W k : Nat} {rs : List Rp} (h : BdOk W rs) (hk : k < rs.length) : ∀ r ∈ rs.take k, r.wk ≠ rs[k].wk := by
  intro r hr
  obtain ⟨j, hj, rfl⟩ := List.getElem_of_mem hr
  rw [List.length_take] at hj
  rw [List.getElem_take]
  exact List.pairwise_iff_getElem.1 h.one j k (by omega) hk (by omega)
set_option maxHeartbeats 8000000 in
set_option maxRecDepth 100000 in
theorem bread_ok (W c : Nat) (p : Option Addr) (rs : List Rp) (w : World) (h : IsBd w (.slice p rs.length c) rs) (hB : BdOk W rs) (hW1 : 1 ≤ W) (hW : W ≤ 8) :
    Calls Try.prog 40 #[.agg #[.int .i64 (W : Int), .int .i64 2, .int .i64 3, .slice p rs.length c]] w fun e w' => ∃ g b off ps, (rs = [] ∨ p = some ⟨b, off, none⟩) ∧ e = .returned (.tuple #[.slice (some ⟨g, 0, none⟩) W W, .bool true]) ∧ w'.ownsRow w.heap.size 105 1 (.slice (some ⟨g, 0, none⟩) W W) W ps ∧ ByOk W b off rs ps ∧ Below w.heap.size w w' := by
  have hval := h.val
  obtain ⟨p', c', hpe, hcc1, hcc2⟩ := hval
  cases hpe
  have hbo : ∃ b off, rs = [] ∨ p = some ⟨b, off, none⟩ := by
    by_cases h0 : 0 < rs.length
    · obtain ⟨b, off, _, _, h1, _⟩ := h.get h0
      exact ⟨b, off, .inr h1⟩
    · exact ⟨0, 0, .inl (List.eq_nil_of_length_eq_zero (by omega))⟩
  obtain ⟨b, off, hbo⟩ := hbo
  have HBO := Lib.hid hbo
  have HL := Lib.hid h
  have HB := Lib.hid hB
  have hn8 := hB.len
  clear h hB hbo
  obtain ⟨n, hn⟩ : ∃ n, n = rs.length := ⟨_, rfl⟩
  rw [← hn] at hcc1 hn8 HL ⊢
  have HN := Lib.hid hn
  clear hn
  obtain ⟨b1, B1, z1⟩ := boxed0 w [.int .i64 (W : Int), .int .i64 2, .int .i64 3, .slice p n c] 56
  obtain ⟨hx0, hx1, hx2, hx3, _, _, _, _⟩ := B1.four
  go_enter Try.func40, Try.ntmps40
  go_wp2_with fail
  refine (bopen_ok W _ hW1 hW).mono ?_; rintro e w1 ⟨rfl, hb1⟩
  have X1 := B1.next hb1
  have hw1 := b1.trans (hb1.mono (by omega))
  have hz1 := Nat.le_trans z1 hb1.size
  clear hx0 hx1 hx2 hx3 b1 B1 z1 hb1
  generalize w.alloc (.cells #[.int .i64 (W : Int), .int .i64 2, .int .i64 3, .slice p n c] 56) = W0 at *
  obtain ⟨b4, B4, z4⟩ := boxed0 w1 [.int .i64 (W : Int), .int .i64 2, .int .i64 3, .slice none 0 0] 56
  have hs4 : (w1.alloc (.cells #[.int .i64 (W : Int), .int .i64 2, .int .i64 3, .slice none 0 0] 56)).heap.size = w1.heap.size + 1 := by simp
  obtain ⟨i0, hi, hj0, hj1, hj2⟩ := info_parts inf_ptr
  obtain ⟨wm, hrun, hom, hgm⟩ := run_make_full (P := Try.prog) (w1.alloc (.cells #[.int .i64 (W : Int), .int .i64 2, .int .i64 3, .slice none 0 0] 56)) (w1.heap.size + 1) 101 105 i0 (.pointer none) 1 rfl hi hj0 hj1 .i64 .i64 W (by rw [hj2]; omega) (by unfold maxLen; omega) (by omega)
  have hbm := (Below.refl (w1.alloc (.cells #[.int .i64 (W : Int), .int .i64 2, .int .i64 3, .slice none 0 0] 56)).heap.size _).grown hgm (Nat.le_refl _) (fun k hk => by cases hk)
  rw [hs4] at hrun hom
  have hom2 : wm.ownsRow (w1.heap.size + 1) 105 1 (.slice (some ⟨w1.heap.size + 1, 0, none⟩) W W) W (List.replicate W (.pointer none)) := by
    rw [← toList_madeCells_one]
    rw [Nat.mul_one] at hom
    exact hom
  have X4 := X1.next b4
  have Xm := X4.next hbm
  have hwm := (hw1.trans (b4.mono hw1.size)).trans (hbm.mono (by have := hw1.size; omega))
  obtain ⟨hx0, hx1, hx2, hx3, _, _, _, _⟩ := X4.four
  obtain ⟨hy0, hy1, hy2, hy3, _, _, _, _⟩ := Xm.four
  clear hom hgm hi hj0 hj1 hj2 X1 X4 b4 B4 z4 hbm
  go_wp2_with fail
  clear hx0 hx1 hx2 hx3 hy0 hy1 hy2 hy3 hrun hs4
  obtain ⟨g, hg⟩ : ∃ g, g = w1.heap.size + 1 := ⟨_, rfl⟩
  rw [← hg] at hom2 ⊢
  have hgw : w.heap.size < g := by omega
  clear hg hz1 hw1
  have hby := ByOk.start W b off
  go_loopg [27] n (fun gk v27 wr => ∃ (k : Nat) (ps : List Value), v27 = .int .i64 (k : Int) ∧ k + gk = n ∧ wr.ownsRow g 105 1 (.slice (some ⟨g, 0, none⟩) W W) W ps ∧ ByOk W b off (rs.take k) ps ∧ Bx wr w.heap.size [.int .i64 (W : Int), .int .i64 2, .int .i64 3, .slice p n c] ∧ Below w.heap.size w wr)
  case atStart => exact ⟨0, _, rfl, by omega, hom2, by rw [List.take_zero]; exact hby, Xm, hwm⟩
  case round =>
    clear hom2 hby Xm hwm
    obtain ⟨k, ps, rfl, hgk, ho, hby, hX, hb⟩ := hrel
    have HGK := Lib.hid hgk
    have hk : k ≤ n := by omega
    clear hgk
    by_cases hlt : k < n
    · have hkl : k < rs.length := by have := HN.out; omega
      obtain ⟨hnow, hep, hst⟩ := HB.out.now _ (List.getElem_mem hkl)
      have hone := HB.out.apart hkl
      have hby2 := Lib.hid (hby.step hkl hnow.wk hone)
      have hmiss := hby.miss _ hnow.wk hone
      obtain ⟨b', off', s, gg, rfl, hcells, hrv⟩ := (HL.out.later hb).get hkl
      have hbe : b' = b ∧ off' = off := by
        rcases HBO.out with h | h
        · rw [h] at hkl; simp at hkl
        · cases h; exact ⟨rfl, rfl⟩
      obtain ⟨rfl, rfl⟩ := hbe
      have HRP := Lib.hid (fun W' (hb' : Below wr.heap.size wr W') => report_ok W rs[k] (.slice (some ⟨b', off', none⟩) n c) s gg W' hnow (hrv.later hb') (by omega) (by omega))
      have hE : rpE rs[k] = 0 := by unfold rpE; rw [if_pos ⟨hep, hst⟩]
      rw [hE] at HRP
      have hwk := hnow.wk
      obtain ⟨bb, hcells⟩ : ∃ bb, bb = b' ∧ (∀ k_1 u, (rpC rs[k] s gg)[k_1]? = some u → wr.cell? ⟨bb, off' + k * 7 + k_1, none⟩ = some u) := ⟨b', rfl, hcells⟩
      obtain ⟨rfl, hcells⟩ := hcells
      have hc0 := hcells 0 _ rfl
      have hc1 := hcells 1 _ rfl
      have hc2 := hcells 2 _ rfl
      have hc3 := hcells 3 _ rfl
      have hc4 := hcells 4 _ rfl
      have hc5 := hcells 5 _ rfl
      have hc6 := hcells 6 _ rfl
      clear hcells hE hrv hnow hone hby
      unfold rpC at HRP
      generalize rs[k] = r at *
      obtain ⟨wk, ep, st, sent, got, wa, op⟩ := r
      dsimp only at *
      subst hep hst
      replace hc0 : wr.cell? ⟨bb, off' + k * 7, none⟩ = some (.int .i64 (wk : Int)) := hc0
      replace hc1 : wr.cell? ⟨bb, off' + k * 7 + 1, none⟩ = some (.int .i64 2) := hc1
      replace hc2 : wr.cell? ⟨bb, off' + k * 7 + 2, none⟩ = some (.int .i64 3) := hc2
      have hcl := ho.cellAt wk (by omega)
      rw [hmiss] at hcl
      have hfr := ho.frozenAt wk
      have hsto := (ho.stored wk (.pointer (some ⟨bb, off' + k * 7, none⟩))).1
      obtain ⟨hx0, hx1, hx2, hx3, _, _, _, _⟩ := hX.four
      have hk0 : (0 : Int) ≤ (k : Int) := by omega
      have hkn : (k : Int) < (n : Int) := by omega
      have hd1 : decide ((k : Int) < (n : Int)) = true := by simp; omega
      have hd2 : decide (k < n) = true := by simp; omega
      have hwk0 : (0 : Int) ≤ (wk : Int) := by omega
      have hwkW : (wk : Int) < (W : Int) := by omega
      go_upto_region 9 with fail
      have hbb : bb < wr.heap.size := World.block_lt_of_cell? wr _ hc0
      have HCC := Lib.hid (fun (W' : World) (h : Below wr.heap.size wr W') => (⟨(h.cell (p := ⟨bb, off' + k * 7, none⟩) hbb).trans hc0, (h.cell (p := ⟨bb, off' + k * 7 + 1, none⟩) hbb).trans hc1, (h.cell (p := ⟨bb, off' + k * 7 + 2, none⟩) hbb).trans hc2, (h.cell (p := ⟨bb, off' + k * 7 + 3, none⟩) hbb).trans hc3, (h.cell (p := ⟨bb, off' + k * 7 + 4, none⟩) hbb).trans hc4, (h.cell (p := ⟨bb, off' + k * 7 + 5, none⟩) hbb).trans hc5, (h.cell (p := ⟨bb, off' + k * 7 + 6, none⟩) hbb).trans hc6⟩ :
        W'.cell? ⟨bb, off' + k * 7, none⟩ = some (.int .i64 (wk : Int)) ∧ W'.cell? ⟨bb, off' + k * 7 + 1, none⟩ = some (.int .i64 2) ∧ W'.cell? ⟨bb, off' + k * 7 + 2, none⟩ = some (.int .i64 3) ∧ W'.cell? ⟨bb, off' + k * 7 + 3, none⟩ = some s ∧ W'.cell? ⟨bb, off' + k * 7 + 4, none⟩ = some gg ∧ W'.cell? ⟨bb, off' + k * 7 + 5, none⟩ = some (.int .i64 (wa : Int)) ∧ W'.cell? ⟨bb, off' + k * 7 + 6, none⟩ = some (.int .i64 (op : Int))))
      have HX := Lib.hid hX
      have HO := Lib.hid ho
      clear ho hX
      have hgs : g < wr.heap.size := (HO.out.lt g rfl).2
      go_region_held3 (fun w' => w'.cell? ⟨w.heap.size, 0, none⟩ = some (Value.int .i64 (W : Int)) ∧ w'.cell? ⟨w.heap.size, 1, none⟩ = some (Value.int .i64 2) ∧ w'.cell? ⟨w.heap.size, 2, none⟩ = some (Value.int .i64 3) ∧ w'.cell? ⟨w.heap.size, 3, none⟩ = some (Value.slice (some ⟨bb, off', none⟩) n c) ∧ w'.cell? ⟨bb, off' + k * 7, none⟩ = some (Value.int .i64 (wk : Int)) ∧ w'.cell? ⟨bb, off' + k * 7 + 1, none⟩ = some (Value.int .i64 2) ∧ w'.cell? ⟨bb, off' + k * 7 + 2, none⟩ = some (Value.int .i64 3) ∧ w'.cell? ⟨bb, off' + k * 7 + 3, none⟩ = some s ∧ w'.cell? ⟨bb, off' + k * 7 + 4, none⟩ = some gg ∧ w'.cell? ⟨bb, off' + k * 7 + 5, none⟩ = some (Value.int .i64 (wa : Int)) ∧ w'.cell? ⟨bb, off' + k * 7 + 6, none⟩ = some (Value.int .i64 (op : Int)) ∧ w'.cell? ⟨g, wk, none⟩ = some (Value.pointer none))
        (first | (exact ⟨hu0, hu1, hu2, hu3, hv0, hv1, hv2, hv3, hv4, hv5, hv6, hpp⟩) | go_keep)
        (first
          | (go_at_call 41; refine (HRP.out _ (Below.drew (Below.refl _ _))).mono ?_; rintro e w5 ⟨rfl, hb5⟩; have hcz : Below wr.heap.size wr w5 := (Below.refl _ wr).drew.trans hb5; obtain ⟨hu0, hu1, hu2, hu3, _, _, _, _⟩ := (HX.out.next hcz).four; obtain ⟨hv0, hv1, hv2, hv3, hv4, hv5, hv6⟩ := HCC.out _ hcz; have hpp := (hcz.cell (p := ⟨g, wk, none⟩) hgs).trans hcl))
      have ho5 := own_later HO.out hcz
      have hfr5 := ho5.frozenAt wk
      have hst5 := (ho5.stored wk (.pointer (some ⟨bb, off' + k * 7, none⟩))).1
      clear hfr hsto
      go_wp2_with fail
      go_roundg (n - (k + 1))
      case measure => have := HGK.out; omega
      case rel => exact ⟨k + 1, _, by go_num, by omega, hst5, hby2.out, bx_oth (HX.out.next hcz) (by show w.heap.size ≠ g; omega) _, (hb.trans (hcz.mono hb.size)).setCell (by show w.heap.size ≤ g; omega) _⟩
    · have hd1 : decide ((k : Int) < (n : Int)) = false := by simp; omega
      have hd2 : decide (k < n) = false := by simp; omega
      rw [List.take_of_length_le (by have := HN.out; omega)] at hby
      go_wp2_with fail
      go_ret2
      exact ⟨g, b, off, ps, HBO.out, rfl, own_mono ho (by omega), hby, hb⟩
end Go.Proofs.Ytmadpjmlcooinaa
