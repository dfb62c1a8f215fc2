/- The walk of store.Open, at a part's bytes. -/
import Derived.Test.YtcaolnpkpialdaaEye
import Derived.Test.YtcaolnpkpialdaaOpenBad
import Derived.Test.YtcaolnpkpialdaaBuild
import Derived.Test.YtcaolnpkpialdaaRR
import Derived.OwnWalk
namespace Go.Proofs.Ytcaolnpkpialdaa
open Go.RowKit Go.Sort Go.Proofs
theorem inf_hrow : (Try.prog.info? 75).map (fun i => (i.zero, i.size, i.bytes)) = some (some (.slice none 0 0), 1, 24) := by kernel_rfl
/-- rows of the call's own stay where another outer row grows -/
theorem OwnRR.grownT {α : Type} {enc : α → List Value} {t1 t2 : TypeId} {s : Nat} {len : α → Nat} {w w' : World} {B B2 n n2 : Nat} {v v2 : Value} {R : List α} {vs xs2 : List Value} (h : OwnRR enc t1 t2 s len w B v n R vs)
    (h2 : w.ownsRow B2 t1 1 v2 n2 xs2) (hne : t2 ≠ t1) (hvv : ∀ k, v2.ownBlock = some k → v.ownBlock ≠ some k) (hg : w.grownBy w' v2.ownBlock) : OwnRR enc t1 t2 s len w' B v n R vs := by
  refine ⟨own_grown h.outer hg (fun k hk e => hvv k e hk), h.cnt, fun i r u h3 h4 => own_grown (h.inner i r u h3 h4) hg (fun k hk e => ?_), h.apart⟩
  have h5 := h.inner i r u h3 h4
  have h6 : ∃ cs, w.heap[k]? = some (.cells cs t1 (0, 0)) := by
    rcases h2.2 with ⟨rfl, _⟩ | ⟨g, cap, cur, rfl, _, hh, _⟩
    · simp [Value.ownBlock] at e
    · have : g = k := by simpa [Value.ownBlock] using e
      subst this
      exact ⟨cur, hh⟩
  obtain ⟨cs, h6⟩ := h6
  rcases h5.2 with ⟨rfl, _⟩ | ⟨g, cap, cur, rfl, _, hh, _⟩
  · simp [Value.ownBlock] at hk
  · have : g = k := by simpa [Value.ownBlock] using hk
    subst this
    rw [hh] at h6
    injection h6 with h6
    injection h6 with _ h7
    exact hne h7
/-- the rows behind the first numbers -/
def rowsS (vs : List Nat) (f h : Nat → List (Nat × Nat)) : List Nat := vs.flatMap fun v => hopL (f v) ++ hopL (h v)
theorem rowsS_cons (v : Nat) (vs : List Nat) (f h : Nat → List (Nat × Nat)) : rowsS (v :: vs) f h = hopL (f v) ++ (hopL (h v) ++ rowsS vs f h) := by simp [rowsS, List.append_assoc]
theorem inkS_cut (w W N : Nat) (vs : List Nat) (f h : Nat → List (Nat × Nat)) : inkS w W N vs f h = put w ++ (put W ++ (put N ++ rowsS vs f h)) := by
  simp [inkS, rowsS, putsN, List.append_assoc]
set_option maxHeartbeats 16000000 in
set_option maxRecDepth 100000 in
theorem open_ok (p : Option Addr) (c n w0 W N : Nat) (E : List Eg) (w : World) (hl : IsB w (.slice p n c) (wrapL (partL w0 W N E))) (hG : InG N E) (hE : E.length ≤ 10) (hN : N ≤ 8) (hw : w0 < W) (hW : W ≤ 8) :
    Calls Try.prog 29 #[.slice p n c] w fun e w' => ∃ p1 c1 p2 c2, e = .returned (.tuple #[.agg #[.int .i64 (w0 : Int), .int .i64 (W : Int), .int .i64 (N : Int), .slice p1 (cntV w0 N W) c1, .slice p2 (cntV w0 N W) c2], .int .i64 0]) ∧ IsRR mcs 2 List.length w' (.slice p1 (cntV w0 N W) c1) ((mineN w0 N W).map (outH E)) ∧ IsRR mcs 2 List.length w' (.slice p2 (cntV w0 N W) c2) ((mineN w0 N W).map (inH E)) ∧ Below w.heap.size w w' := by
  obtain ⟨hn, hnc, hc63⟩ := hl.lens
  have HL := Lib.hid hl
  have hPl := partL_len hG hE hw hW hN
  have hPm := partL_min w0 W N E
  have hPb : AllB (partL w0 W N E) := inkS_bytes _ _ _ _ _ _
  have hU := unwrapL_wrapL hPl []
  rw [List.append_nil, ← hn] at hU
  have HCUT := Lib.hid (show partL w0 W N E = put w0 ++ (put W ++ (put N ++ rowsS (mineN w0 N W) (outH E) (inH E))) from inkS_cut _ _ _ _ _ _)
  have HMI := Lib.hid (fun (V : World) => mine_any w0 N W V hw (by omega) hW)
  have HKO := Lib.hid (outH_ok hG hE)
  have HKI := Lib.hid (inH_ok hG hE)
  obtain ⟨ct, hct⟩ : ∃ ct, ct = cntV w0 N W := ⟨_, rfl⟩
  have hctN : ct ≤ N := by rw [hct]; exact cntV_leN (by omega)
  have HCT := Lib.hid (show ct = (mineN w0 N W).length from by rw [mineN_len]; exact hct)
  rw [← hct] at HMI ⊢
  have HUW := Lib.hid (fun (V : World) (hV : IsB V (.slice p n c) (wrapL (partL w0 W N E))) => unwrap_any p c n _ V hV)
  rw [hU] at HUW
  dsimp only at HUW
  obtain ⟨nl, hnl⟩ : ∃ nl, nl = (partL w0 W N E).length := ⟨_, rfl⟩
  rw [← hnl] at HUW hPl hPm
  generalize wrapL (partL w0 W N E) = f at *
  generalize partL w0 W N E = PL at *
  generalize mineN w0 N W = vs at *
  generalize outH E = fo at *
  generalize inH E = fi at *
  have HPB := Lib.hid hPb
  clear hct hU hnl hn hG hE hl hPb
  obtain ⟨b1, B1, z1⟩ := boxed0 w [.int .i64 0, .int .i64 0, .int .i64 0, .slice none 0 0, .slice none 0 0] 71
  obtain ⟨b2, B2, z2⟩ := boxed0 (w.alloc (.cells #[.int .i64 0, .int .i64 0, .int .i64 0, .slice none 0 0, .slice none 0 0] 71)) [.int .i64 0] 29
  have HX2 := Lib.hid (B1.next b2)
  have HE2 := Lib.hid B2
  have HB2 := Lib.hid (b1.trans (b2.mono b1.size))
  clear b1 B1 b2 B2
  have hmf : ∀ (fn : Fn) (first cap : Array Value) (w : World), (Instr.makeFunc fn first cap).run Try.prog w = .ok (.func fn first cap) w := fun _ _ _ _ => rfl
  go_enter_defers Try.func29, Try.ntmps29
  go_wp2_with fail
  obtain ⟨g1, hg1⟩ : ∃ g1, g1 = w.heap.size := ⟨_, rfl⟩
  have hgw : w.heap.size ≤ g1 := Nat.le_of_eq hg1.symm
  have e1 : (w.alloc (.cells #[.int .i64 0, .int .i64 0, .int .i64 0, .slice none 0 0, .slice none 0 0] 71)).heap.size = w.heap.size + 1 := by simp
  rw [e1] at HE2
  clear e1 z1 z2
  rw [← hg1] at HX2 HE2 ⊢
  obtain ⟨g2, hg2⟩ : ∃ g2, g2 = g1 + 1 := ⟨_, rfl⟩
  have hne : ¬ g1 = g2 := by omega
  have hne' : ¬ g2 = g1 := by omega
  have hg12 : g1 < g2 := by omega
  have hgw2 : w.heap.size ≤ g2 := by omega
  rw [← hg2] at HE2 ⊢
  generalize ((w.alloc (.cells #[.int .i64 0, .int .i64 0, .int .i64 0, .slice none 0 0, .slice none 0 0] 71)).alloc (.cells #[.int .i64 0] 29)) = w1 at *
  clear hg1 hg2
  refine (HUW.out _ (HL.out.later HB2.out)).mono ?_; rintro e w2 ⟨p2, c2, rfl, ho2, hb2⟩
  have hg2w : g2 < w1.heap.size := HE2.out.lt
  obtain ⟨kb, rfl, hkb1, hkb2⟩ := own_form ho2 (by omega)
  have HX3 := Lib.hid (HX2.out.next hb2)
  have HE3 := Lib.hid (HE2.out.next hb2)
  have HB3 := Lib.hid (HB2.out.trans (hb2.mono HB2.out.size))
  have hz2 := hb2.size
  have HI3 := Lib.hid (IsB.of_own (own_ne_st ho2 hg2w 0 (.int .i64 0)) HPB.out)
  obtain ⟨hy0, hy1⟩ := HE3.out.one'
  have HX4 := Lib.hid (show Bx (w2.setCell ⟨g2, 0, none⟩ (.int .i64 0)) g1 _ from bx_oth HX3.out hne _)
  have HE4 := Lib.hid (show Bx (w2.setCell ⟨g2, 0, none⟩ (.int .i64 0)) g2 [.int .i64 0] from HE3.out.setc 0 _)
  have HB4 := Lib.hid (show Below w.heap.size w (w2.setCell ⟨g2, 0, none⟩ (.int .i64 0)) from HB3.out.setCell hgw2 _)
  have hz4 : w2.heap.size = (w2.setCell ⟨g2, 0, none⟩ (.int .i64 0)).heap.size := by simp
  have hkb4 : kb < (w2.setCell ⟨g2, 0, none⟩ (.int .i64 0)).heap.size := by omega
  have hg2k : g2 < kb := by omega
  clear ho2 hb2 HUW HX2 HE2 HB2
  go_upto_region 4 with fail
  generalize (w2.setCell ⟨g2, 0, none⟩ (.int .i64 0)) = w3 at *
  clear hy0 hy1 hz4 HX3 HE3 HB3
  obtain ⟨b5, B5, z5⟩ := boxed0 w3 [.slice (some ⟨kb, 0, none⟩) nl c2] 139
  have HEY := Lib.hid (show EyeSt (w3.alloc (.cells #[.slice (some ⟨kb, 0, none⟩) nl c2] 139)) w3.heap.size kb (put w0 ++ (put W ++ (put N ++ rowsS vs fo fi))) from by rw [← HCUT.out]; exact ⟨_, nl, c2, B5, HI3.out.later b5, fun b off e => by cases e; rfl⟩)
  have HX5 := Lib.hid (HX4.out.next b5)
  have HE5 := Lib.hid (HE4.out.next b5)
  have HB5 := Lib.hid (HB4.out.trans (b5.mono HB4.out.size))
  clear b5 B5 HX4 HE4 HB4 HI3 HCUT HPB
  have HWN := Lib.hid (fun (g : Nat) (V : World) => want_ok g V)
  have hnn : ((n : Int) == (n : Int)) = true := by simp
  have hg2w3 : g2 < w3.heap.size := by omega
  go_upto_region 6 with fail
  obtain ⟨g, hg⟩ : ∃ g, g = w3.heap.size := ⟨_, rfl⟩
  have hkg : kb ≠ g := by omega
  have hkltg : kb < g := by omega
  have hg2g : g2 < g := by omega
  rw [← hg] at HEY z5 ⊢
  clear hg hkb4 hg2w3
  generalize (w3.alloc (.cells #[.slice (some ⟨kb, 0, none⟩) nl c2] 139)) = w4 at *
  go_upto_region 7 with (go_at_call 60; refine (HWN.out _ _).mono ?_; rintro e wn ⟨rfl, rfl⟩)
  clear hnn
  go_wp2_with fail
  refine (eyeget_ok _ g kb 7 w0 _ w4 rfl HEY.out hkg (by omega) (by omega)).mono ?_; rintro e w5 ⟨rfl, he5, hq5⟩
  have HEY5 := Lib.hid he5
  have HX6 := Lib.hid (HX5.out.grown hq5 (fun e => by cases e; omega))
  have HE6 := Lib.hid (HE5.out.grown hq5 (fun e => by cases e; omega))
  have HB6 := Lib.hid (HB5.out.grown hq5 HB5.out.size (fun j hj => by cases hj; omega))
  have hz6 := hq5.size
  clear he5 hq5 HEY HX5 HE5 HB5
  go_wp2_with fail
  refine (eyeget_ok _ g kb 8 W _ w5 rfl HEY5.out hkg (by omega) (by omega)).mono ?_; rintro e w6 ⟨rfl, he5, hq5⟩
  have HEY6 := Lib.hid he5
  have HX7 := Lib.hid (HX6.out.grown hq5 (fun e => by cases e; omega))
  have HE7 := Lib.hid (HE6.out.grown hq5 (fun e => by cases e; omega))
  have HB7 := Lib.hid (HB6.out.grown hq5 HB6.out.size (fun j hj => by cases hj; omega))
  have hz7 := hq5.size
  clear he5 hq5 HEY5 HX6 HE6 HB6
  go_wp2_with fail
  refine (eyeget_ok _ g kb 200 N _ w6 rfl HEY6.out hkg (by omega) (by omega)).mono ?_; rintro e w7 ⟨rfl, he5, hq5⟩
  have HEY7 := Lib.hid he5
  have HX8 := Lib.hid (HX7.out.grown hq5 (fun e => by cases e; omega))
  have HE8 := Lib.hid (HE7.out.grown hq5 (fun e => by cases e; omega))
  have HB8 := Lib.hid (HB7.out.grown hq5 HB7.out.size (fun j hj => by cases hj; omega))
  have hz8 : g + 1 ≤ w7.heap.size := by have := hq5.size; omega
  clear he5 hq5 HEY6 HX7 HE7 HB7 hz6 hz7 z5
  obtain ⟨hx0, hx1, hx2, hx3, hx4⟩ := HX8.out.five
  obtain ⟨hf0, hf1, hf2, hf3, hf4⟩ := HX8.out.fiveF
  have hset := grown_trans (grown_set (w := w7) (s := g1) (i := 0) (u := .int .i64 (w0 : Int))) (grown_trans (grown_set (s := g1) (i := 1) (u := .int .i64 (W : Int))) (grown_set (s := g1) (i := 2) (u := .int .i64 (N : Int))))
  have HX9 := Lib.hid (((HX8.out.setc 0 (.int .i64 (w0 : Int))).setc 1 (.int .i64 (W : Int))).setc 2 (.int .i64 (N : Int)))
  have HE9 := Lib.hid (HE8.out.grown hset (fun e => by cases e; omega))
  have HEY9 := Lib.hid (HEY7.out.grown hset (fun e => by cases e; omega) (fun e => by cases e; omega))
  have HB9 := Lib.hid (((HB8.out.setCell (p := ⟨g1, 0, none⟩) hgw (.int .i64 (w0 : Int))).setCell (p := ⟨g1, 1, none⟩) hgw (.int .i64 (W : Int))).setCell (p := ⟨g1, 2, none⟩) hgw (.int .i64 (N : Int)))
  have hz9 : g + 1 ≤ (((w7.setCell ⟨g1, 0, none⟩ (.int .i64 (w0 : Int))).setCell ⟨g1, 1, none⟩ (.int .i64 (W : Int))).setCell ⟨g1, 2, none⟩ (.int .i64 (N : Int))).heap.size := Nat.le_trans hz8 hset.size
  go_upto_region 8 with fail
  clear hx0 hx1 hx2 hx3 hx4 hf0 hf1 hf2 hf3 hf4 hset HX8 HE8 HEY7 HB8 hz8
  generalize (((w7.setCell ⟨g1, 0, none⟩ (.int .i64 (w0 : Int))).setCell ⟨g1, 1, none⟩ (.int .i64 (W : Int))).setCell ⟨g1, 2, none⟩ (.int .i64 (N : Int))) = w8 at *
  obtain ⟨hx0, hx1, hx2, hx3, hx4⟩ := (show Bx w8 g1 [.int .i64 (w0 : Int), .int .i64 (W : Int), .int .i64 (N : Int), .slice none 0 0, .slice none 0 0] from HX9.out).five
  go_wp2_with fail
  refine (HMI.out _).mono ?_; rintro e w9 ⟨p9, c9, rfl, ho9, hb9⟩
  have HX10 := Lib.hid (show Bx w9 g1 [.int .i64 (w0 : Int), .int .i64 (W : Int), .int .i64 (N : Int), .slice none 0 0, .slice none 0 0] from HX9.out.next hb9)
  have HE10 := Lib.hid (HE9.out.next hb9)
  have HEY10 := Lib.hid (HEY9.out.keep hb9)
  have HB10 := Lib.hid (HB9.out.trans (hb9.mono HB9.out.size))
  have hz10 : g + 1 ≤ w9.heap.size := Nat.le_trans hz9 hb9.size
  have hct9 : ct ≤ c9 ∧ c9 ≤ 9223372036854775807 := by
    obtain ⟨p', c', hp, h1, h2, h3, _⟩ := Sl.of_own ho9
    cases hp
    exact ⟨h1, by unfold maxLen at h2; omega⟩
  obtain ⟨hct5, hct6⟩ := hct9
  obtain ⟨Bs, hBs⟩ : ∃ Bs, Bs = w9.heap.size := ⟨_, rfl⟩
  have hBle : Bs ≤ w9.heap.size := Nat.le_of_eq hBs
  have hgB : g < Bs := by omega
  have hkB : kb < Bs := by omega
  have hwB : w.heap.size ≤ Bs := by have := HB10.out.size; omega
  clear ho9 hb9 hx0 hx1 hx2 hx3 hx4 HX9 HE9 HEY9 HB9 hz9 hBs HMI
  go_wp2_with (go_at_call 60; refine (HWN.out _ _).mono ?_; rintro e wn ⟨rfl, rfl⟩)
  go_loopg [9, 10, 56] ct (fun gk v9 v10 v56 wr => ∃ (k so si : Nat) (p1 p2 : Option Addr) (c1 c2 : Nat) (vs1 vs2 : List Value), v9 = .int .i64 (so : Int) ∧ v10 = .int .i64 (si : Int) ∧ v56 = .int .i64 (k : Int) ∧ k + gk = ct ∧ so ≤ 10 * k ∧ si ≤ 10 * k ∧ Hid (Bx wr g1 [.int .i64 (w0 : Int), .int .i64 (W : Int), .int .i64 (N : Int), .slice p1 k c1, .slice p2 k c2]) ∧ Hid (Bx wr g2 [.int .i64 0]) ∧ Hid (OwnRR mcs 75 104 2 List.length wr Bs (.slice p1 k c1) k ((vs.take k).map fo) vs1) ∧ Hid (OwnRR mcs 75 104 2 List.length wr Bs (.slice p2 k c2) k ((vs.take k).map fi) vs2) ∧ Hid (∀ j, (Value.slice p1 k c1).ownBlock = some j → (Value.slice p2 k c2).ownBlock ≠ some j) ∧ Hid (EyeSt wr g kb (rowsS (vs.drop k) fo fi)) ∧ Hid (Below w.heap.size w wr) ∧ Bs ≤ wr.heap.size)
  case atStart => exact ⟨0, 0, 0, none, none, 0, 0, [], [], rfl, rfl, rfl, by omega, by omega, by omega, HX10, HE10, Lib.hid (OwnRR.nil _ _), Lib.hid (OwnRR.nil _ _), Lib.hid (fun j hj => by simp [Value.ownBlock] at hj), by simpa using HEY10, HB10, hBle⟩
  case round =>
    clear HX10 HE10 HEY10 HB10 hBle hz10
    obtain ⟨k, so, si, p1, p2, c1, c2, vs1, vs2, rfl, rfl, rfl, hgk, hso, hsi, HX, HE, HO, HI, HAP, HY, HB, hz⟩ := hrel
    have HGK := Lib.hid hgk
    have hk : k ≤ ct := by omega
    clear hgk
    by_cases hlt : k < ct
    · have hkl : k < vs.length := by have := HCT.out; omega
      have HRS := Lib.hid (show rowsS (vs.drop k) fo fi = hopL (fo vs[k]) ++ (hopL (fi vs[k]) ++ rowsS (vs.drop (k + 1)) fo fi) from by rw [List.drop_eq_getElem_cons hkl, rowsS_cons])
      have HT1 := Lib.hid (show (vs.take (k + 1)).map fo = (vs.take k).map fo ++ [fo vs[k]] from by rw [List.take_succ_eq_append_getElem hkl, List.map_append]; rfl)
      have HT2 := Lib.hid (show (vs.take (k + 1)).map fi = (vs.take k).map fi ++ [fi vs[k]] from by rw [List.take_succ_eq_append_getElem hkl, List.map_append]; rfl)
      rw [HRS.out] at HY
      have HKo := Lib.hid (HKO.out vs[k])
      have HKi := Lib.hid (HKI.out vs[k])
      have hlo := HKo.out.len
      have hli := HKi.out.len
      generalize fo vs[k] = lo at HT1 HY HKo hlo
      generalize fi vs[k] = li at HT2 HY HKi hli
      obtain ⟨nlo, hnlo⟩ : ∃ nlo, nlo = lo.length := ⟨_, rfl⟩
      obtain ⟨nli, hnli⟩ : ∃ nli, nli = li.length := ⟨_, rfl⟩
      have HNO := Lib.hid hnlo
      have HNI := Lib.hid hnli
      rw [← hnlo] at hlo
      rw [← hnli] at hli
      have hk0 : (0 : Int) ≤ (k : Int) := by omega
      have hkn : (k : Int) < (ct : Int) := by omega
      have hd1 : decide ((k : Int) < (ct : Int)) = true := by simp; omega
      have hd2 : decide (k < ct) = true := by simp; omega
      clear hlt hnlo hnli HRS hkl
      go_upto_region 13 with fail
      obtain ⟨hq0, hq1, hq2, hq3, hq4⟩ := HX.out.five
      obtain ⟨S, hSI⟩ : ∃ S : World → Prop, ∀ w', S w' ↔ (w'.cell? ⟨g1, 3, none⟩ = some (Value.slice p1 k c1) ∧ w'.cell? ⟨g1, 2, none⟩ = some (Value.int .i64 (N : Int))) := ⟨fun w' => _, fun w' => Iff.rfl⟩
      have HSI := Lib.hid hSI
      clear hSI
      refine wp_region_noPanic ?_
      refine wp_region_L S 9 (by kernel_rfl) ((HSI.out _).2 ⟨hq3, hq2⟩) (fun hS => ?_)
      clear hq0 hq1 hq2 hq3 hq4
      refine wpAnyL_take 0 (v := ?_) rfl rfl (by kernel_rfl) (by kernel_rfl) (by kernel_rfl) (by kernel_rfl) (fun _ _ _ h => h) (Or.inl ⟨by rfl, ?_⟩) hS ?_; rotate_left; · intro w hSw; go_simp <;> with_reducible rfl
      try simp only [Act.put, List.setIfInBounds_toArray, List.set_cons_zero, List.set_cons_succ]
      refine wpAnyL_take 1 (v := ?_) rfl rfl (by kernel_rfl) (by kernel_rfl) (by kernel_rfl) (by kernel_rfl) (fun _ _ _ h => h) (Or.inl ⟨by rfl, ?_⟩) hS ?_; rotate_left; · intro w hSw; obtain ⟨hz0, hz1⟩ := (HSI.out w).1 hSw; go_simp <;> with_reducible rfl
      try simp only [Act.put, List.setIfInBounds_toArray, List.set_cons_zero, List.set_cons_succ]
      refine wpAnyL_take 2 (v := ?_) rfl rfl (by kernel_rfl) (by kernel_rfl) (by kernel_rfl) (by kernel_rfl) (fun _ _ _ h => h) (Or.inl ⟨by rfl, ?_⟩) hS ?_; rotate_left; · intro w hSw; go_simp <;> with_reducible rfl
      try simp only [Act.put, List.setIfInBounds_toArray, List.set_cons_zero, List.set_cons_succ]
      refine wpAnyL_take 3 (v := ?_) rfl rfl (by kernel_rfl) (by kernel_rfl) (by kernel_rfl) (by kernel_rfl) (fun _ _ _ h => h) (Or.inl ⟨by rfl, ?_⟩) hS ?_; rotate_left; · intro w hSw; go_simp <;> with_reducible rfl
      try simp only [Act.put, List.setIfInBounds_toArray, List.set_cons_zero, List.set_cons_succ]
      refine wpAnyL_take 4 (v := ?_) rfl rfl (by kernel_rfl) (by kernel_rfl) (by kernel_rfl) (by kernel_rfl) (fun _ _ _ h => h) (Or.inl ⟨by rfl, ?_⟩) hS ?_; rotate_left; · intro w hSw; obtain ⟨hz0, hz1⟩ := (HSI.out w).1 hSw; go_simp <;> with_reducible rfl
      try simp only [Act.put, List.setIfInBounds_toArray, List.set_cons_zero, List.set_cons_succ]
      refine wpAnyL_one 5 rfl rfl (by kernel_rfl) ?_; intro K hK; rw [if_pos (by rfl)]
      go_simp
      refine (eyehops_ok g kb N lo _ wr.drew (HY.out.keep (Below.refl _ wr).drew) hkg HKo.out (by omega)).mono ?_; rintro e w5 ⟨p5, c5, rfl, ho5, hy5, hg5⟩
      rw [← HNO.out] at ho5 ⊢
      have hX5 : Bx w5 g1 [.int .i64 (w0 : Int), .int .i64 (W : Int), .int .i64 (N : Int), .slice p1 k c1, .slice p2 k c2] := (show Bx wr.drew g1 [.int .i64 (w0 : Int), .int .i64 (W : Int), .int .i64 (N : Int), .slice p1 k c1, .slice p2 k c2] from HX.out).grown hg5 (fun e => by cases e; omega)
      have hE5 : Bx w5 g2 [.int .i64 0] := (show Bx wr.drew g2 [.int .i64 0] from HE.out).grown hg5 (fun e => by cases e; omega)
      have hV5 := (HO.out.later (Below.refl _ wr).drew).grown hg5 (fun j hj => by cases hj; exact hgB)
      have hW5 := (HI.out.later (Below.refl _ wr).drew).grown hg5 (fun j hj => by cases hj; exact hgB)
      have hB5 : Below w.heap.size w w5 := HB.out.drew.grown hg5 HB.out.size (fun j hj => by cases hj; omega)
      have hz5 : Bs ≤ w5.heap.size := Nat.le_trans hz hg5.size
      have hfl : ∀ j, (Value.slice p1 k c1).ownBlock = some j → j < wr.heap.size := fun j hj => (HO.out.outer.lt j hj).2
      have hqs := (HSI.out _).2 ⟨(hX5.at (i := 3) rfl).1, (hX5.at (i := 2) rfl).1⟩
      refine hK.out _ _ (fun _ => hqs) ?_; clear hK K
      have hS := hqs
      clear hqs
      try simp only [Act.put, List.setIfInBounds_toArray, List.set_cons_zero, List.set_cons_succ]
      refine wpAnyL_one 6 rfl rfl (by kernel_rfl) ?_; intro K hK; rw [if_pos (by rfl)]
      go_simp
      have hX6 := hX5.alloc (.cells #[.slice p5 nlo c5] 75)
      have hqs := (HSI.out _).2 ⟨(hX6.at (i := 3) rfl).1, (hX6.at (i := 2) rfl).1⟩
      refine hK.out _ _ (fun _ => hqs) ?_; clear hK K
      have hS := hqs
      clear hqs
      try simp only [Act.put, List.setIfInBounds_toArray, List.set_cons_zero, List.set_cons_succ]
      refine wpAnyL_one 7 rfl rfl (by kernel_rfl) ?_; intro K hK; rw [if_pos (by rfl)]
      refine wp_app_op (w0 := (w5.alloc (.cells #[.slice p5 nlo c5] 75))) (.tmp 59) (.tmp 64) _ rfl Bs 75 rfl inf_hrow rfl (by decide) rfl (hV5.outer.alloc _) rfl (m := 1) (news := [.slice p5 nlo c5]) (sl_new w5 [Value.slice p5 nlo c5] 75) (by simp [Value.oneCell']) (by unfold maxLen; omega) (by omega) (Below.refl _ _) (by simp; omega) ?_
      intro q1 d1 w7 hown7 hb7 hs7 hg7 hnb7
      clear hS
      have hgw7 : w5.grownBy w7 (Value.slice p1 k c1).ownBlock := ⟨hg7.os, hg7.tape, hg7.output, Nat.le_trans (World.grownBy_alloc w5 _ none).size hg7.size, fun j hj hr => (hg7.block j (Nat.lt_of_lt_of_le hj (World.grownBy_alloc w5 _ none).size) hr).trans ((World.grownBy_alloc w5 _ none).block j hj (by simp))⟩
      have hfar : ∀ j, (Value.slice p5 nlo c5).ownBlock = some j → (Value.slice p1 k c1).ownBlock ≠ some j := fun j hj e => by have h1 := (ho5.lt j hj).1; have h2 := hfl j e; have h3 : wr.drew.heap.size = wr.heap.size := rfl; omega
      have hnb8 : (Value.slice q1 (k + 1) d1).ownBlock = (Value.slice p1 k c1).ownBlock ∨ ∃ j, w5.heap.size ≤ j ∧ (Value.slice q1 (k + 1) d1).ownBlock = some j := by
        rcases hnb7 with h | h
        · exact .inl h
        · exact .inr ⟨_, by simp, h⟩
      have hP7 := OwnRR.push hV5 hgw7 (r := lo) (by rw [← HNO.out]; exact own_mono ho5 (by show Bs ≤ wr.heap.size; exact hz)) hfar hown7 hnb8
      have hQ7 := OwnRR.grownT hW5 hV5.outer (by decide) (fun j hj => HAP.out j hj) hgw7
      have HAP8 := Lib.hid (show ∀ j, (Value.slice q1 (k + 1) d1).ownBlock = some j → (Value.slice p2 k c2).ownBlock ≠ some j from fun j hj => by
        rcases hnb8 with h | ⟨j', h, h'⟩
        · rw [h] at hj; exact HAP.out j hj
        · rw [h'] at hj; cases hj; intro e; have := (hW5.outer.lt _ e).2; omega)
      have hfB : ∀ j, (Value.slice p1 k c1).ownBlock = some j → Bs ≤ j := fun j hj => (hV5.outer.lt j hj).1
      have hX7 := hX5.grown hgw7 (fun e => by have := hfB _ e; omega)
      have hE7 := hE5.grown hgw7 (fun e => by have := hfB _ e; omega)
      have hY7 := hy5.grown hgw7 (fun e => by have := hfB _ e; omega) (fun e => by have := hfB _ e; omega)
      have hB7 : Below w.heap.size w w7 := hB5.grown hgw7 hB5.size (fun j hj => by have := hfB j hj; omega)
      have hz7 : Bs ≤ w7.heap.size := Nat.le_trans hz5 hgw7.size
      have hqf := (hX7.at (i := 3) rfl)
      have hqs := (HSI.out _).2 ⟨(hX7.at (i := 3) rfl).1, (hX7.at (i := 2) rfl).1⟩
      refine hK.out _ _ (fun _ => hqs) ?_; clear hK K
      have hS := hqs
      clear hqs
      try simp only [Act.put, List.setIfInBounds_toArray, List.set_cons_zero, List.set_cons_succ]
      refine wpAnyL_take 8 (v := ?_) rfl rfl (by kernel_rfl) (by kernel_rfl) (by kernel_rfl) (by kernel_rfl) (fun _ _ _ h => h) (Or.inl ⟨by rfl, ?_⟩) hS ?_; rotate_left; · intro w hSw; go_simp <;> with_reducible rfl
      try simp only [Act.put, List.setIfInBounds_toArray, List.set_cons_zero, List.set_cons_succ]
      obtain ⟨hqf0, hqf1⟩ := hqf
      refine wpAnyL_one 9 rfl rfl (by kernel_rfl) ?_; intro K hK; rw [if_pos (by rfl)]
      go_simp
      refine hK.out _ _ (fun h => absurd rfl h) ?_; clear hK K
      refine wpAnyL_done (by kernel_rfl) ?_ _
      refine NoPanic.normal ?_
      have HX8 := Lib.hid (show Bx (w7.setCell ⟨g1, 3, none⟩ (.slice q1 (k + 1) d1)) g1 [.int .i64 (w0 : Int), .int .i64 (W : Int), .int .i64 (N : Int), .slice q1 (k + 1) d1, .slice p2 k c2] from hX7.setc 3 _)
      have HE8 := Lib.hid (hE7.grown (grown_set (w := w7) (s := g1) (i := 3) (u := .slice q1 (k + 1) d1)) (fun e => by cases e; omega))
      have HY8 := Lib.hid (hY7.grown (grown_set (w := w7) (s := g1) (i := 3) (u := .slice q1 (k + 1) d1)) (fun e => by cases e; omega) (fun e => by cases e; omega))
      have HO8 := Lib.hid (hP7.grown (grown_set (w := w7) (s := g1) (i := 3) (u := .slice q1 (k + 1) d1)) (fun j hj => by cases hj; omega))
      have HI8 := Lib.hid (hQ7.grown (grown_set (w := w7) (s := g1) (i := 3) (u := .slice q1 (k + 1) d1)) (fun j hj => by cases hj; omega))
      have HB8 := Lib.hid (show Below w.heap.size w (w7.setCell ⟨g1, 3, none⟩ (.slice q1 (k + 1) d1)) from hB7.setCell hgw _)
      have hz8 : Bs ≤ (w7.setCell ⟨g1, 3, none⟩ (.slice q1 (k + 1) d1)).heap.size := by simpa using hz7
      clear hS hqf0 hqf1 hX5 hX6 hX7 hE5 hE7 hV5 hW5 hB5 hB7 hz5 hz7 hfl hown7 hb7 hs7 hg7 hnb7 hgw7 hfar hnb8 hP7 hQ7 hfB hY7 hy5 hg5 ho5
      generalize (w7.setCell ⟨g1, 3, none⟩ (.slice q1 (k + 1) d1)) = w8 at *
      clear HX HE HO HI HAP HY HB hz
      go_upto_region 14 with fail
      obtain ⟨hq0, hq1, hq2, hq3, hq4⟩ := HX8.out.five
      obtain ⟨S, hSI⟩ : ∃ S : World → Prop, ∀ w', S w' ↔ (w'.cell? ⟨g1, 4, none⟩ = some (Value.slice p2 k c2) ∧ w'.cell? ⟨g1, 2, none⟩ = some (Value.int .i64 (N : Int))) := ⟨fun w' => _, fun w' => Iff.rfl⟩
      have HSI := Lib.hid hSI
      clear hSI
      refine wp_region_noPanic ?_
      refine wp_region_L S 9 (by kernel_rfl) ((HSI.out _).2 ⟨hq4, hq2⟩) (fun hS => ?_)
      clear hq0 hq1 hq2 hq3 hq4
      refine wpAnyL_take 0 (v := ?_) rfl rfl (by kernel_rfl) (by kernel_rfl) (by kernel_rfl) (by kernel_rfl) (fun _ _ _ h => h) (Or.inl ⟨by rfl, ?_⟩) hS ?_; rotate_left; · intro w hSw; go_simp <;> with_reducible rfl
      try simp only [Act.put, List.setIfInBounds_toArray, List.set_cons_zero, List.set_cons_succ]
      refine wpAnyL_take 1 (v := ?_) rfl rfl (by kernel_rfl) (by kernel_rfl) (by kernel_rfl) (by kernel_rfl) (fun _ _ _ h => h) (Or.inl ⟨by rfl, ?_⟩) hS ?_; rotate_left; · intro w hSw; obtain ⟨hz0, hz1⟩ := (HSI.out w).1 hSw; go_simp <;> with_reducible rfl
      try simp only [Act.put, List.setIfInBounds_toArray, List.set_cons_zero, List.set_cons_succ]
      refine wpAnyL_take 2 (v := ?_) rfl rfl (by kernel_rfl) (by kernel_rfl) (by kernel_rfl) (by kernel_rfl) (fun _ _ _ h => h) (Or.inl ⟨by rfl, ?_⟩) hS ?_; rotate_left; · intro w hSw; go_simp <;> with_reducible rfl
      try simp only [Act.put, List.setIfInBounds_toArray, List.set_cons_zero, List.set_cons_succ]
      refine wpAnyL_take 3 (v := ?_) rfl rfl (by kernel_rfl) (by kernel_rfl) (by kernel_rfl) (by kernel_rfl) (fun _ _ _ h => h) (Or.inl ⟨by rfl, ?_⟩) hS ?_; rotate_left; · intro w hSw; go_simp <;> with_reducible rfl
      try simp only [Act.put, List.setIfInBounds_toArray, List.set_cons_zero, List.set_cons_succ]
      refine wpAnyL_take 4 (v := ?_) rfl rfl (by kernel_rfl) (by kernel_rfl) (by kernel_rfl) (by kernel_rfl) (fun _ _ _ h => h) (Or.inl ⟨by rfl, ?_⟩) hS ?_; rotate_left; · intro w hSw; obtain ⟨hz0, hz1⟩ := (HSI.out w).1 hSw; go_simp <;> with_reducible rfl
      try simp only [Act.put, List.setIfInBounds_toArray, List.set_cons_zero, List.set_cons_succ]
      refine wpAnyL_one 5 rfl rfl (by kernel_rfl) ?_; intro K hK; rw [if_pos (by rfl)]
      go_simp
      refine (eyehops_ok g kb N li _ w8.drew (HY8.out.keep (Below.refl _ w8).drew) hkg HKi.out (by omega)).mono ?_; rintro e w5 ⟨p5, c5, rfl, ho5, hy5, hg5⟩
      rw [← HNI.out] at ho5 ⊢
      have hX5 : Bx w5 g1 [.int .i64 (w0 : Int), .int .i64 (W : Int), .int .i64 (N : Int), .slice q1 (k + 1) d1, .slice p2 k c2] := (show Bx w8.drew g1 [.int .i64 (w0 : Int), .int .i64 (W : Int), .int .i64 (N : Int), .slice q1 (k + 1) d1, .slice p2 k c2] from HX8.out).grown hg5 (fun e => by cases e; omega)
      have hE5 : Bx w5 g2 [.int .i64 0] := (show Bx w8.drew g2 [.int .i64 0] from HE8.out).grown hg5 (fun e => by cases e; omega)
      have hV5 := (HI8.out.later (Below.refl _ w8).drew).grown hg5 (fun j hj => by cases hj; exact hgB)
      have hW5 := (HO8.out.later (Below.refl _ w8).drew).grown hg5 (fun j hj => by cases hj; exact hgB)
      have hB5 : Below w.heap.size w w5 := HB8.out.drew.grown hg5 HB8.out.size (fun j hj => by cases hj; omega)
      have hz5 : Bs ≤ w5.heap.size := Nat.le_trans hz8 hg5.size
      have hfl : ∀ j, (Value.slice p2 k c2).ownBlock = some j → j < w8.heap.size := fun j hj => (HI8.out.outer.lt j hj).2
      have hqs := (HSI.out _).2 ⟨(hX5.at (i := 4) rfl).1, (hX5.at (i := 2) rfl).1⟩
      refine hK.out _ _ (fun _ => hqs) ?_; clear hK K
      have hS := hqs
      clear hqs
      try simp only [Act.put, List.setIfInBounds_toArray, List.set_cons_zero, List.set_cons_succ]
      refine wpAnyL_one 6 rfl rfl (by kernel_rfl) ?_; intro K hK; rw [if_pos (by rfl)]
      go_simp
      have hX6 := hX5.alloc (.cells #[.slice p5 nli c5] 75)
      have hqs := (HSI.out _).2 ⟨(hX6.at (i := 4) rfl).1, (hX6.at (i := 2) rfl).1⟩
      refine hK.out _ _ (fun _ => hqs) ?_; clear hK K
      have hS := hqs
      clear hqs
      try simp only [Act.put, List.setIfInBounds_toArray, List.set_cons_zero, List.set_cons_succ]
      refine wpAnyL_one 7 rfl rfl (by kernel_rfl) ?_; intro K hK; rw [if_pos (by rfl)]
      refine wp_app_op (w0 := (w5.alloc (.cells #[.slice p5 nli c5] 75))) (.tmp 68) (.tmp 73) _ rfl Bs 75 rfl inf_hrow rfl (by decide) rfl (hV5.outer.alloc _) rfl (m := 1) (news := [.slice p5 nli c5]) (sl_new w5 [Value.slice p5 nli c5] 75) (by simp [Value.oneCell']) (by unfold maxLen; omega) (by omega) (Below.refl _ _) (by simp; omega) ?_
      intro q2 d2 w7 hown7 hb7 hs7 hg7 hnb7
      clear hS
      have hgw7 : w5.grownBy w7 (Value.slice p2 k c2).ownBlock := ⟨hg7.os, hg7.tape, hg7.output, Nat.le_trans (World.grownBy_alloc w5 _ none).size hg7.size, fun j hj hr => (hg7.block j (Nat.lt_of_lt_of_le hj (World.grownBy_alloc w5 _ none).size) hr).trans ((World.grownBy_alloc w5 _ none).block j hj (by simp))⟩
      have hfar : ∀ j, (Value.slice p5 nli c5).ownBlock = some j → (Value.slice p2 k c2).ownBlock ≠ some j := fun j hj e => by have h1 := (ho5.lt j hj).1; have h2 := hfl j e; have h3 : w8.drew.heap.size = w8.heap.size := rfl; omega
      have hnb8 : (Value.slice q2 (k + 1) d2).ownBlock = (Value.slice p2 k c2).ownBlock ∨ ∃ j, w5.heap.size ≤ j ∧ (Value.slice q2 (k + 1) d2).ownBlock = some j := by
        rcases hnb7 with h | h
        · exact .inl h
        · exact .inr ⟨_, by simp, h⟩
      have hP7 := OwnRR.push hV5 hgw7 (r := li) (by rw [← HNI.out]; exact own_mono ho5 (by show Bs ≤ w8.heap.size; exact hz8)) hfar hown7 hnb8
      have hQ7 := OwnRR.grownT hW5 hV5.outer (by decide) (fun j hj e => HAP8.out j e hj) hgw7
      have HAP9 := Lib.hid (show ∀ j, (Value.slice q1 (k + 1) d1).ownBlock = some j → (Value.slice q2 (k + 1) d2).ownBlock ≠ some j from fun j hj e => by
        rcases hnb8 with h | ⟨j', h, h'⟩
        · rw [h] at e; exact HAP8.out j hj e
        · rw [h'] at e; cases e; have := (hW5.outer.lt _ hj).2; omega)
      have hfB : ∀ j, (Value.slice p2 k c2).ownBlock = some j → Bs ≤ j := fun j hj => (hV5.outer.lt j hj).1
      have hX7 := hX5.grown hgw7 (fun e => by have := hfB _ e; omega)
      have hE7 := hE5.grown hgw7 (fun e => by have := hfB _ e; omega)
      have hY7 := hy5.grown hgw7 (fun e => by have := hfB _ e; omega) (fun e => by have := hfB _ e; omega)
      have hB7 : Below w.heap.size w w7 := hB5.grown hgw7 hB5.size (fun j hj => by have := hfB j hj; omega)
      have hz7 : Bs ≤ w7.heap.size := Nat.le_trans hz5 hgw7.size
      have hqf := (hX7.at (i := 4) rfl)
      have hqs := (HSI.out _).2 ⟨(hX7.at (i := 4) rfl).1, (hX7.at (i := 2) rfl).1⟩
      refine hK.out _ _ (fun _ => hqs) ?_; clear hK K
      have hS := hqs
      clear hqs
      try simp only [Act.put, List.setIfInBounds_toArray, List.set_cons_zero, List.set_cons_succ]
      refine wpAnyL_take 8 (v := ?_) rfl rfl (by kernel_rfl) (by kernel_rfl) (by kernel_rfl) (by kernel_rfl) (fun _ _ _ h => h) (Or.inl ⟨by rfl, ?_⟩) hS ?_; rotate_left; · intro w hSw; go_simp <;> with_reducible rfl
      try simp only [Act.put, List.setIfInBounds_toArray, List.set_cons_zero, List.set_cons_succ]
      obtain ⟨hqf0, hqf1⟩ := hqf
      refine wpAnyL_one 9 rfl rfl (by kernel_rfl) ?_; intro K hK; rw [if_pos (by rfl)]
      go_simp
      refine hK.out _ _ (fun h => absurd rfl h) ?_; clear hK K
      refine wpAnyL_done (by kernel_rfl) ?_ _
      refine NoPanic.normal ?_
      have HX9 := Lib.hid (show Bx (w7.setCell ⟨g1, 4, none⟩ (.slice q2 (k + 1) d2)) g1 [.int .i64 (w0 : Int), .int .i64 (W : Int), .int .i64 (N : Int), .slice q1 (k + 1) d1, .slice q2 (k + 1) d2] from hX7.setc 4 _)
      have HE9 := Lib.hid (hE7.grown (grown_set (w := w7) (s := g1) (i := 4) (u := .slice q2 (k + 1) d2)) (fun e => by cases e; omega))
      have HY9 := Lib.hid (hY7.grown (grown_set (w := w7) (s := g1) (i := 4) (u := .slice q2 (k + 1) d2)) (fun e => by cases e; omega) (fun e => by cases e; omega))
      have HI9 := Lib.hid (hP7.grown (grown_set (w := w7) (s := g1) (i := 4) (u := .slice q2 (k + 1) d2)) (fun j hj => by cases hj; omega))
      have HO9 := Lib.hid (hQ7.grown (grown_set (w := w7) (s := g1) (i := 4) (u := .slice q2 (k + 1) d2)) (fun j hj => by cases hj; omega))
      have HB9 := Lib.hid (show Below w.heap.size w (w7.setCell ⟨g1, 4, none⟩ (.slice q2 (k + 1) d2)) from hB7.setCell hgw _)
      have hz9 : Bs ≤ (w7.setCell ⟨g1, 4, none⟩ (.slice q2 (k + 1) d2)).heap.size := by simpa using hz7
      clear hS hqf0 hqf1 hX5 hX6 hX7 hE5 hE7 hV5 hW5 hB5 hB7 hz5 hz7 hfl hown7 hb7 hs7 hg7 hnb7 hgw7 hfar hnb8 hP7 hQ7 hfB hY7 hy5 hg5 ho5
      generalize (w7.setCell ⟨g1, 4, none⟩ (.slice q2 (k + 1) d2)) = w9 at *
      clear HX8 HE8 HO8 HI8 HAP8 HY8 HB8 hz8
      -- what the last rows have
      have HR1 := HO9.out.isRR
      have HR2 := HI9.out.isRR
      have hcn1 := HO9.out.cnt
      have hcn2 := HI9.out.cnt
      obtain ⟨bo, oo, qo, do_, rfl, hco, -⟩ := HR1.get (i := k) (by omega)
      obtain ⟨bi, oi, qi, di, rfl, hci, -⟩ := HR2.get (i := k) (by omega)
      have hlk1 : ((vs.take k).map fo).length = k := by rw [List.length_append] at hcn1; simpa using hcn1
      have hlk2 : ((vs.take k).map fi).length = k := by rw [List.length_append] at hcn2; simpa using hcn2
      rw [List.getElem_append_right (by omega)] at hco
      rw [List.getElem_append_right (by omega)] at hci
      simp only [List.getElem_singleton, ← HNO.out, ← HNI.out] at hco hci
      obtain ⟨hx0, hx1, hx2, hx3, hx4⟩ := HX9.out.five
      have hks : (k : Int) < (k : Int) + 1 := by omega
      have hb1 : so + nlo ≤ 10 * (k + 1) := by omega
      have hb2 : si + nli ≤ 10 * (k + 1) := by omega
      have hw1 : IntKind.i64.wrap ((so : Int) + (nlo : Int)) = (so : Int) + (nlo : Int) := IntWalk.i64_in _ (by omega)
      have hw2 : IntKind.i64.wrap ((si : Int) + (nli : Int)) = (si : Int) + (nli : Int) := IntWalk.i64_in _ (by omega)
      clear HR1 HR2 hcn1 hcn2 hlk1 hlk2
      rw [← HT1.out] at HO9
      rw [← HT2.out] at HI9
      go_wp2_with fail
      go_roundg (ct - (k + 1))
      case measure => have := HGK.out; omega
      case rel => exact ⟨k + 1, so + nlo, si + nli, _, _, d1, d2, _, _, by go_num, by go_num, by go_num, by omega, hb1, hb2, HX9, HE9, HO9, HI9, HAP9, HY9, HB9, hz9⟩
    · obtain rfl : ct = k := by omega
      have hd1 : decide ((ct : Int) < (ct : Int)) = false := by simp
      have hd2 : decide (ct < ct) = false := by simp
      have hvl : ct = vs.length := HCT.out
      have HYn := Lib.hid (show EyeSt wr g kb [] from by have h := HY.out; rw [List.drop_eq_nil_of_le (by omega)] at h; exact h)
      have HOn := Lib.hid (show OwnRR mcs 75 104 2 List.length wr Bs (.slice p1 ct c1) ct (vs.map fo) vs1 from by have h := HO.out; rw [List.take_of_length_le (by omega)] at h; exact h)
      have HIn := Lib.hid (show OwnRR mcs 75 104 2 List.length wr Bs (.slice p2 ct c2) ct (vs.map fi) vs2 from by have h := HI.out; rw [List.take_of_length_le (by omega)] at h; exact h)
      obtain ⟨pe, ne, ce, hbe, hle, -⟩ := HYn.out
      obtain rfl : ne = 0 := by have := hle.lens.1; simpa using this
      have hce := hbe.one
      obtain ⟨hx0, hx1, hx2, hx3, hx4⟩ := HX.out.five
      obtain ⟨hf0, hf1, hf2, hf3, hf4⟩ := HX.out.fiveF
      obtain ⟨hy0, hy1⟩ := HE.out.one'
      have hs1 : decide ((so : Int) ≤ 600) = true := by simp; omega
      have hs2 : decide (so ≤ 600) = true := by simp; omega
      have hs3 : decide ((si : Int) ≤ 600) = true := by simp; omega
      have hs4 : decide (si ≤ 600) = true := by simp; omega
      clear hbe hle hlt hvl HY HO HI
      go_wp2_with (go_at_call 60; refine (HWN.out _ _).mono ?_; rintro e wn ⟨rfl, rfl⟩)
      refine leaves_cons (f := 59) (args := #[.pointer (some ⟨g1, 0, none⟩), .pointer (some ⟨g2, 0, none⟩)]) (by simp) (by simp [go_sem]) ?_
      refine (openIdle _ _ _).mono ?_
      rintro e u' w'' ⟨rfl, rfl, rfl⟩
      have hset := grown_trans (grown_set (w := wr) (s := g1) (i := 0) (u := .int .i64 (w0 : Int))) (grown_trans (grown_set (s := g1) (i := 1) (u := .int .i64 (W : Int))) (grown_trans (grown_set (s := g1) (i := 2) (u := .int .i64 (N : Int))) (grown_trans (grown_set (s := g1) (i := 3) (u := .slice p1 ct c1)) (grown_set (s := g1) (i := 4) (u := .slice p2 ct c2)))))
      have HXf := (((((HX.out.setc 0 (.int .i64 (w0 : Int))).setc 1 (.int .i64 (W : Int))).setc 2 (.int .i64 (N : Int))).setc 3 (.slice p1 ct c1)).setc 4 (.slice p2 ct c2))
      have HXg := bx_oth HXf (a := ⟨g2, 0, none⟩) (show g1 ≠ g2 from hne) (.int .i64 0)
      have HEf := (HE.out.grown hset (fun e => by cases e; omega)).setc 0 (.int .i64 0)
      have HOf := (HOn.out.grown hset (fun j hj => by cases hj; omega)).grown (grown_set (s := g2) (i := 0) (u := .int .i64 0)) (fun j hj => by cases hj; omega)
      have HIf := (HIn.out.grown hset (fun j hj => by cases hj; omega)).grown (grown_set (s := g2) (i := 0) (u := .int .i64 0)) (fun j hj => by cases hj; omega)
      have HBf := (((((HB.out.setCell (p := ⟨g1, 0, none⟩) hgw (.int .i64 (w0 : Int))).setCell (p := ⟨g1, 1, none⟩) hgw (.int .i64 (W : Int))).setCell (p := ⟨g1, 2, none⟩) hgw (.int .i64 (N : Int))).setCell (p := ⟨g1, 3, none⟩) hgw (.slice p1 ct c1)).setCell (p := ⟨g1, 4, none⟩) hgw (.slice p2 ct c2)).setCell (p := ⟨g2, 0, none⟩) hgw2 (.int .i64 0)
      clear hset HXf hx0 hx1 hx2 hx3 hx4 hf0 hf1 hf2 hf3 hf4 hy0 hy1
      generalize ((((((wr.setCell ⟨g1, 0, none⟩ (.int .i64 (w0 : Int))).setCell ⟨g1, 1, none⟩ (.int .i64 (W : Int))).setCell ⟨g1, 2, none⟩ (.int .i64 (N : Int))).setCell ⟨g1, 3, none⟩ (.slice p1 ct c1)).setCell ⟨g1, 4, none⟩ (.slice p2 ct c2)).setCell ⟨g2, 0, none⟩ (.int .i64 0)) = wf at *
      obtain ⟨hx0, hx1, hx2, hx3, hx4⟩ := (show Bx wf g1 [.int .i64 (w0 : Int), .int .i64 (W : Int), .int .i64 (N : Int), .slice p1 ct c1, .slice p2 ct c2] from HXg).five
      obtain ⟨hy0, hy1⟩ := (show Bx wf g2 [.int .i64 0] from HEf).one'
      refine ⟨.tuple #[.agg #[.int .i64 (w0 : Int), .int .i64 (W : Int), .int .i64 (N : Int), .slice p1 ct c1, .slice p2 ct c2], .int .i64 0], ?_, p1, c1, p2, c2, rfl, HOf.isRR, HIf.isRR, HBf⟩
      rw [results_cells2 rfl]
      go_simp
end Go.Proofs.Ytcaolnpkpialdaa
