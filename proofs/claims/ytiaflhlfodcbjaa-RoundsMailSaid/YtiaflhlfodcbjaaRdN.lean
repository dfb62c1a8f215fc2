/- The walk of rounds.clone. -/
import Derived.Test.YtiaflhlfodcbjaaOwn3
import Derived.Deep.QuietTactic
import Derived.BigQuiet
import Derived.Lib.SliceRun
import Derived.Test.YtiaflhlfodcbjaaRdV
import Derived.Test.YtiaflhlfodcbjaaBoxed
import Derived.Test.YtiaflhlfodcbjaaRdS
import Derived.Laws.MakeOwn
import Derived.Laws.ResultCell
namespace Go.Proofs.Ytiaflhlfodcbjaa
open Go.RowKit
set_option maxHeartbeats 1000000 in
set_option maxRecDepth 100000 in
theorem cloneV_ok (n c : Nat) (p : Option Addr) (xs : List Value) (w : World) (h : Sl w 2 (.slice p n c) n xs) (h1 : ∀ u ∈ xs, u.oneCell' = true) (hn : n ≤ 100000) :
    Calls Try.prog 26 #[.slice p n c] w fun e w' => ∃ p' c', e = .returned (.slice p' n c') ∧ w'.ownsRow w.heap.size 40 2 (.slice p' n c') n xs ∧ Below w.heap.size w w' := by
  rcases p with _ | ad
  · have hx : n = 0 ∧ c = 0 ∧ xs = [] := by
      obtain ⟨p', c', hp, h2, h3, h4, h5, h6⟩ := h
      cases hp
      have hc := h5 rfl
      subst hc
      have : n = 0 := by omega
      subst this
      exact ⟨rfl, rfl, List.eq_nil_of_length_eq_zero (by simpa using h4)⟩
    obtain ⟨rfl, rfl, rfl⟩ := hx
    have q22 : ∀ (w : World) (a : Option Addr) (n c n' c' : Nat), (binOp .eql 29 (.slice a n c) (.slice none n' c')).run Try.prog w = .ok (.bool a.isNone) w := fun w a n c n' c' => Lib.run_eql_slice_nil w _ _ a n c n' c' rfl
    go_enter Try.func26, Try.ntmps26
    go_wp2_with fail
    go_ret
    exact ⟨none, 0, rfl, World.ownsRow_nil _ _ _ _, Below.refl _ _⟩
  · have HS := Lib.hid h
    clear h
    have q22 : ∀ (w : World) (a : Option Addr) (n c n' c' : Nat), (binOp .eql 29 (.slice a n c) (.slice none n' c')).run Try.prog w = .ok (.bool a.isNone) w := fun w a n c n' c' => Lib.run_eql_slice_nil w _ _ a n c n' c' rfl
    go_enter Try.func26, Try.ntmps26
    go_wp2_with (at_builtin; refine wp_app (w0 := w) rfl _ _ _ rfl w.heap.size 40 rfl inf_vl rfl (by decide) rfl (World.ownsRow_made w #[] 0 (Nat.le_refl _) (Nat.zero_le _) rfl) rfl (HS.out.later ((Below.refl _ w).alloc (Nat.le_refl _) _)) h1 (by unfold maxLen; omega) (by omega) ((Below.refl _ w).alloc (Nat.le_refl _) _) (by simp) ?_; intro p1 c1 w1 hown hb hsz _ _)
    go_ret
    rw [Nat.zero_add, List.nil_append] at hown
    exact ⟨p1, c1, rfl, hown, hb⟩
end Go.Proofs.Ytiaflhlfodcbjaa
namespace Go.Proofs.Ytiaflhlfodcbjaa
open Go.RowKit
set_option maxHeartbeats 1000000 in
set_option maxRecDepth 100000 in
theorem cloneI_ok (n c : Nat) (p : Option Addr) (xs : List Value) (w : World) (h : Sl w 1 (.slice p n c) n xs) (h1 : ∀ u ∈ xs, u.oneCell' = true) (hn : n ≤ 100000) :
    Calls Try.prog 43 #[.slice p n c] w fun e w' => ∃ p' c', e = .returned (.slice p' n c') ∧ w'.ownsRow w.heap.size 3 1 (.slice p' n c') n xs ∧ Below w.heap.size w w' := by
  rcases p with _ | ad
  · have hx : n = 0 ∧ c = 0 ∧ xs = [] := by
      obtain ⟨p', c', hp, h2, h3, h4, h5, h6⟩ := h
      cases hp
      have hc := h5 rfl
      subst hc
      have : n = 0 := by omega
      subst this
      exact ⟨rfl, rfl, List.eq_nil_of_length_eq_zero (by simpa using h4)⟩
    obtain ⟨rfl, rfl, rfl⟩ := hx
    have q22 : ∀ (w : World) (a : Option Addr) (n c n' c' : Nat), (binOp .eql 38 (.slice a n c) (.slice none n' c')).run Try.prog w = .ok (.bool a.isNone) w := fun w a n c n' c' => Lib.run_eql_slice_nil w _ _ a n c n' c' rfl
    go_enter Try.func43, Try.ntmps43
    go_wp2_with fail
    go_ret
    exact ⟨none, 0, rfl, World.ownsRow_nil _ _ _ _, Below.refl _ _⟩
  · have HS := Lib.hid h
    clear h
    have q22 : ∀ (w : World) (a : Option Addr) (n c n' c' : Nat), (binOp .eql 38 (.slice a n c) (.slice none n' c')).run Try.prog w = .ok (.bool a.isNone) w := fun w a n c n' c' => Lib.run_eql_slice_nil w _ _ a n c n' c' rfl
    go_enter Try.func43, Try.ntmps43
    go_wp2_with (at_builtin; refine wp_app (w0 := w) rfl _ _ _ rfl w.heap.size 3 rfl inf_int rfl (by decide) rfl (World.ownsRow_made w #[] 0 (Nat.le_refl _) (Nat.zero_le _) rfl) rfl (HS.out.later ((Below.refl _ w).alloc (Nat.le_refl _) _)) h1 (by unfold maxLen; omega) (by omega) ((Below.refl _ w).alloc (Nat.le_refl _) _) (by simp) ?_; intro p1 c1 w1 hown hb hsz _ _)
    go_ret
    rw [Nat.zero_add, List.nil_append] at hown
    exact ⟨p1, c1, rfl, hown, hb⟩
end Go.Proofs.Ytiaflhlfodcbjaa
namespace Go.Proofs.Ytiaflhlfodcbjaa
open Go.RowKit
/-- a fresh row put into a row -/
theorem OwnN.put {w w3 : World} {B g I N x : Nat} {R : List (List Int)} {vs : List Value} {v' : Value} {r' : List Int} (h : OwnN w B g I N R vs) (hx : x < N) (hb : Below w.heap.size w w3)
    (hown : w3.ownsRow w.heap.size 3 1 v' r'.length (its r')) (hI : I ≤ w.heap.size) : OwnN (w3.setCell ⟨g, x, none⟩ v') B g I N (R.set x r') (vs.set x v') := by
  have hL := h.later hb
  have hxR : x < R.length := by rw [h.len]; exact hx
  have hxv : x < vs.length := by rw [h.vlen]; exact hx
  have hold : ∀ (m : Nat) (z : Value) (k : Nat), vs[m]? = some z → z.ownBlock = some k → k < w.heap.size := fun m z k hz hk => by
    have hm : m < R.length := by have := (List.getElem?_eq_some_iff.1 hz).1; rw [h.vlen] at this; rw [h.len]; exact this
    exact ((h.inner m _ z (List.getElem?_eq_getElem hm) hz).lt k hk).2
  refine ⟨(hL.outer.stored x v').1, by rw [List.length_set]; exact h.len, h.gi, ?_, ?_⟩
  · intro v q z hq hz
    rw [List.getElem?_set] at hq hz
    by_cases hv : x = v
    · subst hv
      rw [if_pos rfl, if_pos hxR] at hq
      rw [if_pos rfl, if_pos hxv] at hz
      cases hq; cases hz
      exact own_setCell (own_mono hown hI) (by exact h.gi) _
    · rw [if_neg hv] at hq hz
      exact own_setCell (hL.inner v q z hq hz) (by exact h.gi) _
  · intro i j ui uj k hij hi hj hk e
    rw [List.getElem?_set] at hi hj
    by_cases hix : x = i
    · subst hix
      rw [if_pos rfl, if_pos hxv] at hi
      cases hi
      rw [if_neg hij] at hj
      have := (hown.lt k hk).1
      have := hold j uj k hj e
      omega
    · rw [if_neg hix] at hi
      by_cases hjx : x = j
      · subst hjx
        rw [if_pos rfl, if_pos hxv] at hj
        cases hj
        have := (hown.lt k e).1
        have := hold i ui k hi hk
        omega
      · rw [if_neg hjx] at hj
        exact h.apart i j ui uj k hij hi hj hk e
/-- rows, some of them laid already -/
def cpR (m : List (List Int)) (N k : Nat) : List (List Int) := m.take k ++ List.replicate (N - k) []
theorem cpR_set {m : List (List Int)} {N k : Nat} (h : m.length = N) (hk : k < N) : (cpR m N k).set k (m[k]'(by omega)) = cpR m N (k + 1) := by
  unfold cpR
  apply List.ext_getElem?
  intro i
  rw [List.getElem?_set]
  by_cases e : k = i
  · subst e
    rw [if_pos rfl, if_pos (by simp; omega), List.getElem?_append_left (by rw [List.length_take]; omega), List.getElem?_take_of_lt (Nat.lt_succ_self _), List.getElem?_eq_getElem (by omega)]
  · rw [if_neg e]
    by_cases hl : i < k
    · rw [List.getElem?_append_left (by rw [List.length_take]; omega), List.getElem?_append_left (by rw [List.length_take]; omega), List.getElem?_take_of_lt hl, List.getElem?_take_of_lt (by omega)]
    · rw [List.getElem?_append_right (by rw [List.length_take]; omega), List.getElem?_append_right (by rw [List.length_take]; omega), List.length_take, List.length_take, List.getElem?_replicate, List.getElem?_replicate]
      by_cases h2 : i < N
      · rw [if_pos (by omega), if_pos (by omega)]
      · rw [if_neg (by omega), if_neg (by omega)]
set_option maxHeartbeats 4000000 in
set_option maxRecDepth 100000 in
theorem rclone_ok (N B : Nat) (v : Value) (s : RSt) (w : World) (h : RdSt w B N v s) (hN1 : 1 ≤ N) (hN : N ≤ 10) (hm : ∀ r ∈ s.mail, r.length ≤ 1000) :
    Calls Try.prog 25 #[v] w fun e w' => ∃ v', e = .returned v' ∧ RdSt w' w.heap.size N v' s ∧ Below w.heap.size w w' := by
  obtain ⟨pv, pm, cv, cm, rfl, hv, hr, hvl⟩ := h
  have hml : s.mail.length = N := by obtain ⟨us, _, h2, _⟩ := hr; exact h2
  have HML := Lib.hid hml
  have HVL := Lib.hid hvl
  have HMM := Lib.hid hm
  have HCV := Lib.hid (fun (W : World) (hW : Below w.heap.size w W) => cloneV_ok N cv pv (vlC s.vals) W (hv.1.later hW) (vlC_one _) (by omega))
  have HR := Lib.hid hr
  clear hv hr hvl hm hml
  generalize hst : (s.step : Int) = st
  generalize hph : (s.phase : Int) = ph
  generalize hfr : s.fresh = fr
  generalize hdn : s.done = dn
  have HST := Lib.hid hst
  have HPH := Lib.hid hph
  have HFR := Lib.hid hfr
  have HDN := Lib.hid hdn
  clear hst hph hfr hdn
  obtain ⟨b1, B1, z1⟩ := boxed0 w [.int .i64 st, .int .i64 ph, .bool fr, .bool dn, .slice pv N cv, .slice pm N cm] 32
  have hs1 : (w.alloc (.cells #[.int .i64 st, .int .i64 ph, .bool fr, .bool dn, .slice pv N cv, .slice pm N cm] 32)).heap.size = w.heap.size + 1 := by simp
  obtain ⟨b2, B2, z2⟩ := boxed0 (w.alloc (.cells #[.int .i64 st, .int .i64 ph, .bool fr, .bool dn, .slice pv N cv, .slice pm N cm] 32)) [.int .i64 0, .int .i64 0, .bool false, .bool false, .slice none 0 0, .slice none 0 0] 32
  have HB0 := Lib.hid (b1.trans (b2.mono (by omega)))
  have X1 := B1.next b2
  rw [hs1] at B2 z2
  have HX := Lib.hid X1
  have HZ := Lib.hid B2
  obtain ⟨hx0, hx1, hx2, hx3, hx4, hx5⟩ := X1.six
  clear b1 b2 B1 B2 X1 z1 hs1
  go_enter Try.func25, Try.ntmps25
  go_wp2_with fail
  generalize ((w.alloc (.cells #[.int .i64 st, .int .i64 ph, .bool fr, .bool dn, .slice pv N cv, .slice pm N cm] 32)).alloc (.cells #[.int .i64 0, .int .i64 0, .bool false, .bool false, .slice none 0 0, .slice none 0 0] 32)) = w0 at *
  obtain ⟨g, hg⟩ : ∃ g, g = w.heap.size := ⟨_, rfl⟩
  have HG := Lib.hid hg
  rw [← hg] at HX HZ z2 hx0 hx1 hx2 hx3 hx4 hx5 ⊢
  clear hg
  have hz0 : g + 2 ≤ w0.heap.size := by omega
  refine (HCV.out _ HB0.out).mono ?_; rintro e w1 ⟨p2, c2, rfl, ho2, hb⟩
  have HX1 := Lib.hid ((HX.out.next hb).setc 4 (.slice p2 N c2))
  have HZ1 := Lib.hid (bx_oth (HZ.out.next hb) (a := ⟨g, 4, none⟩) (by show g + 1 ≠ g; omega) (.slice p2 N c2))
  have HB1 := Lib.hid ((HB0.out.trans (hb.mono HB0.out.size)).setCell (p := ⟨g, 4, none⟩) (by have := HG.out; show w.heap.size ≤ g; omega) (.slice p2 N c2))
  have HO1 := Lib.hid (own_setCell (own_mono ho2 hz0) (a := ⟨g, 4, none⟩) (by show g < g + 2; omega) (.slice p2 N c2))
  have hf4 := (HX.out.next hb).sixF.2.2.2.2.1
  have hc4 := (HX.out.next hb).six.2.2.2.2.1
  have hsz1 := hb.size
  clear hb ho2 HX HZ HB0 HCV hx0 hx1 hx2 hx3 hx4 hx5
  go_upto_region 2 with fail
  obtain ⟨w2, hw2⟩ : ∃ w2, w2 = w1.setCell ⟨g, 4, none⟩ (.slice p2 N c2) := ⟨_, rfl⟩
  have hs2 : g + 2 ≤ w2.heap.size := by rw [hw2]; simp [World.setCell]; omega
  rw [← hw2] at HX1 HZ1 HB1 HO1 ⊢
  clear hw2 hf4 hc4 hsz1 hz0 z2
  simp only [List.set_cons_zero, List.set_cons_succ] at HX1
  obtain ⟨i0, hi, hj0, hj1, hj2⟩ := info_parts inf_ints
  obtain ⟨wm, hrun, hom, hgm⟩ := run_make_full (P := Try.prog) w2 w2.heap.size 30 38 i0 (.slice none 0 0) 1 rfl hi hj0 hj1 .i64 .i64 N (by rw [hj2]; omega) (by unfold maxLen; omega) (Nat.le_refl _)
  have hbm := (Below.refl w2.heap.size _).grown hgm (Nat.le_refl _) (fun k hk => by cases hk)
  have hM : OwnN wm w2.heap.size w2.heap.size (w2.heap.size + 1) N (List.replicate N []) (List.replicate N (.slice none 0 0)) := by
    refine OwnN.made (Nat.lt_succ_self _) ?_
    rw [← toList_madeCells_one]
    rw [Nat.mul_one] at hom
    exact hom
  have hzm := (hM.outer.lt _ rfl).2
  obtain ⟨gm, hgme⟩ : ∃ gm, gm = w2.heap.size := ⟨_, rfl⟩
  have HX2 := Lib.hid (HX1.out.next hbm)
  have HZ2 := Lib.hid (HZ1.out.next hbm)
  have HB2 := Lib.hid (HB1.out.trans (hbm.mono HB1.out.size))
  rw [← hgme] at hM hrun hzm hs2
  have HV := Lib.hid (show ∀ W, Below gm wm W → RdB W (g + 2) 2 (.slice p2 N c2) N (vlC s.vals) from fun W hW => (RdB.of_own HO1.out).later (hbm.trans (by rw [← hgme]; exact hW)))
  have HM := Lib.hid (show OwnN wm gm gm (gm + 1) N (cpR s.mail N 0) (List.replicate N (.slice none 0 0)) from by unfold cpR; exact hM)
  have HZM := Lib.hid (show ∃ vs, OwnN wm gm gm (gm + 1) N (cpR s.mail N 0) vs from ⟨_, HM.out⟩)
  obtain ⟨hx0, hx1, hx2, hx3, hx4, hx5⟩ := HX1.out.six
  clear hgme hom hgm hi hj0 hj1 hj2 hbm hM HX1 HZ1 HB1 HO1
  go_upto_region 3 with fail
  clear hrun hx0 hx1 hx2 hx3 hx4 hx5
  obtain ⟨hx0, hx1, hx2, hx3, hx4, hx5⟩ := HX2.out.six
  go_wp2_with fail
  go_loopg [17] N (fun gk v17 wr => ∃ (k : Nat) (vs : List Value), v17 = .int .i64 (k : Int) ∧ k + gk = N ∧ Hid (OwnN wr gm gm (gm + 1) N (cpR s.mail N k) vs) ∧ Hid (Below gm wm wr) ∧ gm + 1 ≤ wr.heap.size)
  case atStart => exact ⟨0, _, rfl, by omega, HM, Lib.hid (Below.refl _ _), hzm⟩
  case round =>
    clear HM HZM
    obtain ⟨k, vs, rfl, hgk, HM, HBB, hsz⟩ := hrel
    have HGK := Lib.hid hgk
    have hk : k ≤ N := by omega
    clear hgk hx0 hx1 hx2 hx3 hx4 hx5
    have HXR := Lib.hid (HX2.out.later HBB.out (by omega))
    obtain ⟨hx0, hx1, hx2, hx3, hx4, hx5⟩ := HXR.out.six
    by_cases hlt : k < N
    · have hkl : k < s.mail.length := by have := HML.out; omega
      have hd1 : decide ((k : Int) < (N : Int)) = true := by simp; omega
      have hd2 : decide (k < N) = true := by simp; omega
      have hk0 : (0 : Int) ≤ (k : Int) := by omega
      have hkn : (k : Int) < (N : Int) := by omega
      have HWR := Lib.hid (show Below w.heap.size w wr from HB2.out.trans (HBB.out.mono (by have := HG.out; omega)))
      have hmax := HMM.out _ (List.getElem_mem hkl)
      obtain ⟨b, off, q, d, rfl, hc, hq⟩ := (HR.out.later HWR.out).get (List.getElem?_eq_getElem hkl)
      have HSET := Lib.hid (cpR_set HML.out hlt)
      generalize s.mail[k] = r at *
      have HCI := Lib.hid (fun (W : World) (hW : Below wr.heap.size wr W) => cloneI_ok r.length d q (its r) W (hq.1.later hW) (fun u hu => by unfold its at hu; obtain ⟨x, _, rfl⟩ := List.mem_map.1 hu; rfl) (by omega))
      clear hq hlt
      go_wp2_with fail
      refine (HCI.out _ (Below.refl _ _)).mono ?_; rintro e w3 ⟨p3, c3, rfl, ho3, hb3⟩
      have hkv := (HM.out.later hb3).outer.cellAt k (by omega)
      rw [List.getElem?_eq_getElem (show k < vs.length by rw [HM.out.vlen]; omega)] at hkv
      generalize vs[k]'(show k < vs.length by rw [HM.out.vlen]; omega) = u0 at hkv
      have hfz := (HM.out.later hb3).outer.frozenAt k
      have HM3 := Lib.hid (HM.out.put (show k < N by omega) hb3 ho3 hsz)
      rw [HSET.out] at HM3
      have HB3 := Lib.hid (HBB.out.trans (hb3.mono (by omega)))
      have hsz3 : gm + 1 ≤ w3.heap.size := Nat.le_trans hsz hb3.size
      clear ho3 hb3 HM HCI hx0 hx1 hx2 hx3 hx4 hx5 HXR hc
      go_wp2_with fail
      go_roundg (N - (k + 1))
      case measure => have := HGK.out; omega
      case rel => exact ⟨k + 1, _, by go_num, by omega, HM3, Lib.hid (HB3.out.setCell (p := ⟨gm, k, none⟩) (Nat.le_refl _) _), by simp; omega⟩
    · obtain rfl : k = N := by omega
      have hd1 : decide ((k : Int) < (k : Int)) = false := by simp
      have hd2 : decide (k < k) = false := by simp
      have hcp : cpR s.mail k k = s.mail := by unfold cpR; rw [List.take_of_length_le (by have := HML.out; omega), Nat.sub_self]; simp
      rw [hcp] at HM
      obtain ⟨hf0, hf1, hf2, hf3, hf4, hf5⟩ := HXR.out.sixF
      have HZR := Lib.hid (HZ2.out.later HBB.out (by omega))
      obtain ⟨hz0, hz1, hz2, hz3, hz4, hz5⟩ := HZR.out.six
      obtain ⟨hh0, hh1, hh2, hh3, hh4, hh5⟩ := HZR.out.sixF
      have hna : ¬ g + 1 = g := by omega
      clear hlt hcp
      go_wp2_with fail
      refine bodyPost_ret (v := .agg #[.int .i64 st, .int .i64 ph, .bool fr, .bool dn, .slice p2 k c2, .slice (some ⟨gm, 0, none⟩) k k]) ?_ rfl ⟨_, rfl, ?_, ?_⟩
      · rw [results_cell1 rfl]
        go_simp
      · rw [← HST.out, ← HPH.out, ← HFR.out, ← HDN.out]
        refine RdSt.mono (B := g + 2) (RdSt.set6 (RdSt.setCell ?_ (a := ⟨g, 5, none⟩) (by show g < g + 2; omega) _) (by omega) _ _ _ _ _ _) (by have := HG.out; omega)
        exact ⟨p2, _, c2, k, rfl, HV.out wr HBB.out, HM.out.rd (by omega) (by omega), HVL.out⟩
      · exact setc6 ((HB2.out.trans (HBB.out.mono (by have := HG.out; omega))).setCell (p := ⟨g, 5, none⟩) (by have := HG.out; show w.heap.size ≤ g; omega) _) (by have := HG.out; omega) _ _ _ _ _ _
end Go.Proofs.Ytiaflhlfodcbjaa
