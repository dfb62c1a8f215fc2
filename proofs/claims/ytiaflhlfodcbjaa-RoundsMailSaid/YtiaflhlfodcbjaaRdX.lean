/- The walk of rounds.Next. -/
import Derived.Test.YtiaflhlfodcbjaaRdS
import Derived.Test.YtiaflhlfodcbjaaRdM
import Derived.Test.YtiaflhlfodcbjaaRdN
import Derived.Test.YtiaflhlfodcbjaaRdK
import Derived.Test.YtiaflhlfodcbjaaRdY
import Derived.Test.YtiaflhlfodcbjaaRdQ
import Derived.Test.YtiaflhlfodcbjaaSortI
import Derived.IntWalk
namespace Go.Proofs.Ytiaflhlfodcbjaa
open Go.RowKit
theorem vlC_set : ∀ (l : List (Int × Int)) (k : Nat) (x : Int × Int), vlC (l.set k x) = ((vlC l).set (k * 2) (.int .i64 x.1)).set (k * 2 + 1) (.int .i64 x.2)
  | [], k, x => by simp [vlC]
  | a :: l, 0, x => rfl
  | a :: l, k + 1, x => by
    have h := vlC_set l k x
    show vlC (a :: l.set k x) = (([Value.int .i64 a.1, Value.int .i64 a.2] ++ vlC l).set ((k + 1) * 2) _).set ((k + 1) * 2 + 1) _
    rw [show (k + 1) * 2 = (k * 2 + 1) + 1 by omega, show (k * 2 + 1) + 1 + 1 = (k * 2 + 1 + 1) + 1 by omega]
    show [Value.int .i64 a.1, Value.int .i64 a.2] ++ vlC (l.set k x) = _
    rw [h]
    rfl
/-- a value of the call's own is set -/
theorem own_vset {w : World} {B g c n k : Nat} {l : List (Int × Int)} (h : w.ownsRow B 40 2 (.slice (some ⟨g, 0, none⟩) n c) n (vlC l)) (x : Int × Int) :
    ((w.setCell ⟨g, k * 2, none⟩ (.int .i64 x.1)).setCell ⟨g, k * 2 + 1, none⟩ (.int .i64 x.2)).ownsRow B 40 2 (.slice (some ⟨g, 0, none⟩) n c) n (vlC (l.set k x)) := by
  rw [vlC_set]
  exact ((h.stored (k * 2) (.int .i64 x.1)).1.stored (k * 2 + 1) (.int .i64 x.2)).1
theorem own_keep {gm I : Nat} {w w' : World} {B : Nat} {e : TypeId} {size : Nat} {v : Value} {n : Nat} {xs : List Value} (hK : KeepM gm I w w') (h : w.ownsRow B e size v n xs) (hk : ∀ k, v.ownBlock = some k → k < I ∧ k ≠ gm) : w'.ownsRow B e size v n xs := by
  refine ⟨h.1, ?_⟩
  rcases h.2 with hn | ⟨g, cap, cur, rfl, h1, h2, h3⟩
  · exact .inl hn
  · obtain ⟨h4, h5⟩ := hk g rfl
    exact .inr ⟨g, cap, cur, rfl, h1, (hK.2 g h4 h5).trans h2, h3⟩
theorem OwnN.setOther {w : World} {B g I N : Nat} {R : List (List Int)} {vs : List Value} (h : OwnN w B g I N R vs) {a : Addr} (h1 : g ≠ a.block) (h2 : a.block < I) (u : Value) : OwnN (w.setCell a u) B g I N R vs :=
  ⟨own_setCell_ne h.outer (fun e => h1 (Option.some.inj e)) u, h.len, h.gi, fun v r z h3 h4 => own_setCell (h.inner v r z h3 h4) h2 u, h.apart⟩
/-- a row changed in its place -/
theorem OwnN.inRow {w w3 : World} {B g I N x : Nat} {R : List (List Int)} {vs : List Value} {u : Value} {r r' : List Int} (h : OwnN w B g I N R vs) (hr : R[x]? = some r) (hu : vs[x]? = some u)
    (hg : w.grownBy w3 u.ownBlock) (hown : w3.ownsRow I 3 1 u r'.length (its r')) : OwnN w3 B g I N (R.set x r') vs := by
  have hx : x < R.length := (List.getElem?_eq_some_iff.1 hr).1
  have hug := (h.inner x r u hr hu).lt
  refine ⟨own_grown h.outer hg (fun k hk e => by cases hk; have := (hug g e).1; have := h.gi; omega), by rw [List.length_set]; exact h.len, h.gi, ?_, h.apart⟩
  intro v q z hq hz
  rw [List.getElem?_set] at hq
  by_cases hv : x = v
  · subst hv
    rw [if_pos rfl, if_pos hx] at hq
    cases hq
    rw [hu] at hz
    cases hz
    exact hown
  · rw [if_neg hv] at hq
    exact own_grown (h.inner v q z hq hz) hg (fun k hk e => h.apart x v u z k hv hu hz e hk)
/-- the values behind the first k vertices -/
def nvK (kind : Nat) (src : Int) (N : Nat) (s : RSt) (k : Nat) : List (Int × Int) := (List.range N).map fun v => if v < k then (awk kind src s v).1 else aV s v
theorem nvK_len (kind : Nat) (src : Int) (N : Nat) (s : RSt) (k : Nat) : (nvK kind src N s k).length = N := by simp [nvK]
theorem nvK_zero (kind : Nat) (src : Int) {N : Nat} {s : RSt} (h : s.vals.length = N) : nvK kind src N s 0 = s.vals := by
  apply List.ext_getElem
  · rw [nvK_len, h]
  · intro i h1 h2
    simp only [nvK, List.getElem_map, List.getElem_range, Nat.not_lt_zero, if_false]
    unfold aV
    rw [List.getD_eq_getElem?_getD, List.getElem?_eq_getElem h2]; rfl
theorem nvK_all (kind : Nat) (src : Int) (N : Nat) (s : RSt) : nvK kind src N s N = nVals kind src N s := by
  unfold nvK nVals
  apply List.map_congr_left
  intro v hv
  rw [if_pos (List.mem_range.1 hv)]
theorem nvK_succ (kind : Nat) (src : Int) (N : Nat) (s : RSt) (k : Nat) : nvK kind src N s (k + 1) = (nvK kind src N s k).set k (awk kind src s k).1 := by
  apply List.ext_getElem
  · rw [List.length_set, nvK_len, nvK_len]
  · intro i h1 h2
    rw [List.getElem_set]
    simp only [nvK, List.getElem_map, List.getElem_range]
    by_cases e : k = i
    · subst e; rw [if_pos rfl, if_pos (Nat.lt_succ_self _)]
    · rw [if_neg e]
      by_cases h3 : i < k
      · rw [if_pos h3, if_pos (by omega)]
      · rw [if_neg h3, if_neg (by omega)]
theorem nvK_skip (kind : Nat) (src : Int) (N : Nat) (s : RSt) {k : Nat} (h : (awk kind src s k).1 = aV s k) : nvK kind src N s (k + 1) = nvK kind src N s k := by
  unfold nvK
  apply List.map_congr_left
  intro v _
  by_cases e : v = k
  · subst e; rw [if_pos (Nat.lt_succ_self _), if_neg (Nat.lt_irrefl _), h]
  · by_cases h3 : v < k
    · rw [if_pos h3, if_pos (by omega)]
    · rw [if_neg h3, if_neg (by omega)]
theorem upMsgs_zero (kind : Nat) (src : Int) (E : List Eg) (s : RSt) : upMsgs kind src E s 0 = [] := rfl
theorem upMsgs_succ (kind : Nat) (src : Int) (E : List Eg) (s : RSt) (k : Nat) : upMsgs kind src E s (k + 1) = upMsgs kind src E s k ++ vMsgs kind src E s k := by
  unfold upMsgs
  rw [List.range_succ, List.flatMap_append]; simp
/-- rows, the first k of them sorted -/
def sK (ms : List (Nat × Int)) (N k : Nat) : List (List Int) := (List.range N).map fun i => if i < k then sortI (boxOf ms i) else boxOf ms i
theorem sK_len (ms : List (Nat × Int)) (N k : Nat) : (sK ms N k).length = N := by simp [sK]
theorem sK_zero (ms : List (Nat × Int)) (N : Nat) : sK ms N 0 = rowsB N ms := by
  unfold sK rowsB
  apply List.map_congr_left
  intro i _
  rw [if_neg (Nat.not_lt_zero _)]
theorem sK_all (kind : Nat) (src : Int) (N : Nat) (E : List Eg) (s : RSt) : sK (upMsgs kind src E s N) N N = nMail kind src N E s := by
  unfold sK nMail
  apply List.map_congr_left
  intro i hi
  rw [if_pos (List.mem_range.1 hi)]
theorem sK_at {N k : Nat} (ms : List (Nat × Int)) (h : k < N) : (sK ms N k)[k]? = some (boxOf ms k) := by
  unfold sK
  rw [List.getElem?_map, List.getElem?_range h]
  simp
theorem sK_succ (ms : List (Nat × Int)) (N k : Nat) : sK ms N (k + 1) = (sK ms N k).set k (sortI (boxOf ms k)) := by
  apply List.ext_getElem
  · rw [List.length_set, sK_len, sK_len]
  · intro i h1 h2
    rw [List.getElem_set]
    simp only [sK, List.getElem_map, List.getElem_range]
    by_cases e : k = i
    · subst e; rw [if_pos rfl, if_pos (Nat.lt_succ_self _)]
    · rw [if_neg e]
      by_cases h3 : i < k
      · rw [if_pos h3, if_pos (by omega)]
      · rw [if_neg h3, if_neg (by omega)]
theorem sK_take {N k : Nat} (ms : List (Nat × Int)) (h : k ≤ N) : (sK ms N k).take k = (List.range k).map fun i => sortI (boxOf ms i) := by
  apply List.ext_getElem
  · rw [List.length_take, sK_len, List.length_map, List.length_range]; omega
  · intro i h1 h2
    have hi : i < k := by simpa using h2
    rw [List.getElem_take]
    simp only [sK, List.getElem_map, List.getElem_range]
    rw [if_pos hi]
/-- is there any mail in the first k rows? -/
def anyK (ms : List (Nat × Int)) (k : Nat) : Bool := anyL ((List.range k).map fun i => sortI (boxOf ms i))
theorem anyK_succ (ms : List (Nat × Int)) (k : Nat) : anyK ms (k + 1) = (anyK ms k || decide (0 < (boxOf ms k).length)) := by
  unfold anyK anyL
  rw [List.range_succ, List.map_append, List.any_append]
  congr 1
  simp only [List.map_cons, List.map_nil, List.any_cons, List.any_nil, Bool.or_false]
  have := sortI_len (boxOf ms k)
  cases h : sortI (boxOf ms k) with
  | nil => rw [h] at this; simp at this; simp [← this]
  | cons a l => rw [h] at this; simp at this; simp; omega
theorem anyK_all (kind : Nat) (src : Int) (N : Nat) (E : List Eg) (s : RSt) : anyK (upMsgs kind src E s N) N = anyL (nMail kind src N E s) := rfl
/-- a state out of a round's cells -/
theorem st_of {w : World} {B B' gm I N gv c2 : Nat} {vals : List (Int × Int)} {mail : List (List Int)} {vs : List Value} {s : RSt}
    (hv : w.ownsRow B 40 2 (.slice (some ⟨gv, 0, none⟩) N c2) N (vlC vals)) (hm : OwnN w gm gm I N mail vs) (hB : B' ≤ B) (hg : B' ≤ gm) (hsv : s.vals = vals) (hsm : s.mail = mail) :
    RdSt w B' N (.agg #[.int .i64 (s.step : Int), .int .i64 (s.phase : Int), .bool s.fresh, .bool s.done, .slice (some ⟨gv, 0, none⟩) N c2, .slice (some ⟨gm, 0, none⟩) N N]) s := by
  refine ⟨_, _, _, _, rfl, by rw [hsv]; exact (RdB.of_own hv).mono hB, by rw [hsm]; exact hm.rd hg (by have := hm.gi; omega), ?_⟩
  have h1 := hv.1
  rw [vlC_len] at h1
  rw [hsv]; omega
/-- the next state, put together -/
theorem nextF_any {kind : Nat} {src : Int} {N : Nat} {E : List Eg} {s : RSt} (hd : s.done = false) (ha : anyL (nMail kind src N E s) = true) : nextF kind src N E s = ⟨s.step + 1, s.phase, false, false, nVals kind src N s, nMail kind src N E s⟩ := by
  unfold nextF
  rw [if_neg (by simp [hd]), if_pos ha]
end Go.Proofs.Ytiaflhlfodcbjaa
namespace Go.Proofs.Ytiaflhlfodcbjaa
open Go.RowKit
theorem below_cellOf {w w' : World} (h : Below w.heap.size w w') {a : Addr} {v : Value} (hc : w.cell? a = some v) : w'.cell? a = some v := by
  rw [h.cell (World.block_lt_of_cell? w a hc)]
  exact hc
theorem le_sumN : ∀ (l : List Nat) (x : Nat), x ∈ l → x ≤ l.sum
  | [], x, h => by cases h
  | a :: l, x, h => by
    rw [List.sum_cons]
    rcases List.mem_cons.1 h with rfl | h
    · omega
    · have := le_sumN l x h; omega
theorem made_rows {wm : World} {g N I : Nat} (hom : wm.ownsRow g 38 1 (.slice (some ⟨g, 0, none⟩) N N) N (madeCells (Value.slice none 0 0).cells (N * 1)).toList) (hI : g < I) : OwnN wm g g I N (List.replicate N []) (List.replicate N (.slice none 0 0)) := by
  refine OwnN.made hI ?_
  rw [← toList_madeCells_one]
  rw [Nat.mul_one] at hom
  exact hom
set_option maxHeartbeats 8000000 in
set_option maxRecDepth 100000 in
theorem next_ok (p : Option Addr) (c n N kind : Nat) (src : Int) (E : List Eg) (v : Value) (s : RSt) (w : World) (h : JobOk w p c n N kind src E) (hv : RdSt w 0 N v s) (hG : GoodS kind N s) (hst : s.step ≤ 900 ∧ (kind = 1 → s.step ≤ 20)) :
    Calls Try.prog 12 #[jobV p c n N kind src, v] w fun e w' => ∃ v', e = .returned (.tuple #[v', .int .i64 0]) ∧ RdSt w' w.heap.size N v' (nextF kind src N E s) ∧ Below w.heap.size w w' := by
  have HCH := Lib.hid (fun (W : World) (hW : Below w.heap.size w W) => jcheck_ok p c n N kind src E W (h.later hW))
  have HMY := Lib.hid (fun (W : World) (hW : Below w.heap.size w W) => jmay_ok p c n N kind src E v s W (h.later hW) (hv.later hW) hG (by omega))
  have HCL := Lib.hid (fun (W : World) (hW : Below w.heap.size w W) => rclone_ok N 0 v s W (hv.later hW) h.N1 h.N10 (fun r hr => by
    have h1 := hG.sm
    obtain ⟨i, hi, rfl⟩ := List.mem_iff_getElem.1 hr
    have h2 := le_sumN _ _ (List.mem_map_of_mem (f := List.length) (List.getElem_mem hi))
    omega))
  obtain ⟨pv, pm, cv, cm, rfl, hsv, hsm, hvl⟩ := hv
  have HCV := Lib.hid (fun (W : World) (hW : Below w.heap.size w W) => cloneV_ok N cv pv (vlC s.vals) W (hsv.1.later hW) (vlC_one _) (by have := h.N10; omega))
  have HV := Lib.hid hsv
  have HR := Lib.hid hsm
  have HJ := Lib.hid h
  have HGS := Lib.hid hG
  have hN1 := h.N1
  have hN10 := h.N10
  have hk1 := h.k1
  have hk3 := h.k3
  have HFD := Lib.hid hG.fd
  have HVL := Lib.hid hvl
  generalize hste : s.step = st at *
  generalize hphe : s.phase = ph at *
  generalize hfre : s.fresh = fr at *
  generalize hdne : s.done = dn at *
  have HST := Lib.hid hste
  have HPH := Lib.hid hphe
  have HFR := Lib.hid hfre
  have HDN := Lib.hid hdne
  clear hste hphe hfre hdne h hG hsv hsm hvl
  unfold jobV at *
  obtain ⟨b1, B1, z1⟩ := boxed0 w [.int .i64 (N : Int), .slice p n c, .int .i64 (kind : Int), .int .i64 src] 27
  generalize hw1 : (w.alloc (.cells #[.int .i64 (N : Int), .slice p n c, .int .i64 (kind : Int), .int .i64 src] 27)) = w1 at *
  have hs1 : w1.heap.size = w.heap.size + 1 := by rw [← hw1]; simp
  obtain ⟨b2, B2, z2⟩ := boxed0 w1 [.int .i64 (st : Int), .int .i64 (ph : Int), .bool fr, .bool dn, .slice pv N cv, .slice pm N cm] 32
  generalize hw2 : (w1.alloc (.cells #[.int .i64 (st : Int), .int .i64 (ph : Int), .bool fr, .bool dn, .slice pv N cv, .slice pm N cm] 32)) = w2 at *
  have hs2 : w2.heap.size = w.heap.size + 2 := by rw [← hw2]; simp; omega
  obtain ⟨b3, B3, z3⟩ := boxed0 w2 [.int .i64 0, .int .i64 0, .bool false, .bool false, .slice none 0 0, .slice none 0 0] 32
  generalize hw3 : (w2.alloc (.cells #[.int .i64 0, .int .i64 0, .bool false, .bool false, .slice none 0 0, .slice none 0 0] 32)) = w3 at *
  have HB0 := Lib.hid ((b1.trans (b2.mono (by omega))).trans (b3.mono (by omega)))
  have HX := Lib.hid ((B1.next b2).next b3)
  have HY := Lib.hid (show Bx w3 (w.heap.size + 1) _ from by have h1 := B2.next b3; rw [hs1] at h1; exact h1)
  have HZ := Lib.hid (show Bx w3 (w.heap.size + 2) _ from by have h1 := B3; rw [hs2] at h1; exact h1)
  obtain ⟨hx0, hx1, hx2, hx3, _⟩ := HX.out.four
  obtain ⟨hy0, hy1, hy2, hy3, hy4, hy5⟩ := HY.out.six
  obtain ⟨hz0, hz1, hz2, hz3, hz4, hz5⟩ := HZ.out.six
  clear b1 b2 b3 B1 B2 B3 z1 z2
  go_enter Try.func12, Try.ntmps12
  go_upto_region 1 with fail
  clear hw1 hw2 hw3 hs1 hs2
  obtain ⟨g, hg⟩ : ∃ g, g = w.heap.size := ⟨_, rfl⟩
  have HG := Lib.hid hg
  rw [← hg] at HX HY HZ hx0 hx1 hx2 hx3 hy0 hy1 hy2 hy3 hy4 hy5 ⊢
  clear hg hz0 hz1 hz2 hz3 hz4 hz5 z3
  go_wp2_with fail
  refine (HCH.out _ HB0.out).mono ?_; rintro e w4 ⟨rfl, hb4⟩
  have HB4 := Lib.hid (HB0.out.trans (hb4.mono HB0.out.size))
  have HX4 := Lib.hid (HX.out.next hb4)
  have HY4 := Lib.hid (HY.out.next hb4)
  have HZ4 := Lib.hid (HZ.out.next hb4)
  obtain ⟨hx0, hx1, hx2, hx3, _⟩ := HX4.out.four
  obtain ⟨hy0, hy1, hy2, hy3, hy4, hy5⟩ := HY4.out.six
  clear hb4 HX HY HZ HB0 HCH
  go_wp2_with fail
  refine (HMY.out _ HB4.out).mono ?_; rintro e w5 ⟨rfl, hb5⟩
  have HB5 := Lib.hid (HB4.out.trans (hb5.mono HB4.out.size))
  have HX5 := Lib.hid (HX4.out.next hb5)
  have HY5 := Lib.hid (HY4.out.next hb5)
  have HZ5 := Lib.hid (HZ4.out.next hb5)
  obtain ⟨hx0, hx1, hx2, hx3, _⟩ := HX5.out.four
  obtain ⟨hy0, hy1, hy2, hy3, hy4, hy5⟩ := HY5.out.six
  clear hb5 HX4 HY4 HZ4 HB4 HMY
  cases dn with
  | true =>
    have HNF := Lib.hid (show nextF kind src N E s = s from by unfold nextF; rw [if_pos HDN.out])
    go_wp2_with fail
    refine (HCL.out _ HB5.out).mono ?_; rintro e w6 ⟨v', rfl, hs6, hb6⟩
    have HZ6 := Lib.hid (HZ5.out.next hb6)
    obtain ⟨pv', pm', cv', cm', rfl, hsv, hsm, hvl⟩ := hs6
    have HSV := Lib.hid (show RdSt w6 w5.heap.size N _ s from ⟨pv', pm', cv', cm', rfl, hsv, hsm, hvl⟩)
    have HB6 := Lib.hid (HB5.out.trans (hb6.mono HB5.out.size))
    have hz5 : g + 2 < w5.heap.size := HZ5.out.lt
    obtain ⟨hz0, hz1, hz2, hz3, hz4, hz5'⟩ := HZ6.out.six
    obtain ⟨hh0, hh1, hh2, hh3, hh4, hh5⟩ := HZ6.out.sixF
    clear hsv hsm hvl hb6 hx0 hx1 hx2 hx3 hy0 hy1 hy2 hy3 hy4 hy5
    go_wp2_with fail
    refine bodyPost_ret (v := .tuple #[.agg #[.int .i64 (s.step : Int), .int .i64 (s.phase : Int), .bool s.fresh, .bool s.done, .slice pv' N cv', .slice pm' N cm'], .int .i64 0]) ?_ rfl ⟨_, rfl, ?_, ?_⟩
    · rw [results_cell_tmp rfl]
      go_simp
    · rw [HNF.out]
      exact (RdSt.set6 HSV.out hz5 _ _ _ _ _ _).mono (by have := HG.out; omega)
    · exact setc6 HB6.out (by have := HG.out; omega) _ _ _ _ _ _
  | false =>
    have hst1 : ((st : Int) == 100000) = false := by simp; omega
    go_upto_region 10 with fail
    clear hst1 HCL
    obtain ⟨i0, hi, hj0, hj1, hj2⟩ := info_parts inf_ints
    have HMK := Lib.hid (fun (W : World) => run_make_full (P := Try.prog) W W.heap.size 30 38 i0 (.slice none 0 0) 1 rfl hi hj0 hj1 .i64 .i64 N (by rw [hj2]; omega) (by unfold maxLen; omega) (Nat.le_refl _))
    clear hi hj0 hj1 hj2
    obtain ⟨wa, hrunA, homA, hgmA⟩ := HMK.out w5.drew
    have HA := Lib.hid homA
    have HBA := Lib.hid (show Below w5.heap.size w5 wa from ((Below.refl _ w5).drew).trans ((Below.refl w5.drew.heap.size _).grown hgmA (Nat.le_refl _) (fun k hk => by cases hk)))
    have HCA := Lib.hid (show ∀ W, Below w5.heap.size w5 W → W.cell? ⟨g, 0, none⟩ = some (.int .i64 (N : Int)) ∧ W.cell? ⟨g, 1, none⟩ = some (.slice p n c) ∧ W.cell? ⟨g, 2, none⟩ = some (.int .i64 (kind : Int)) ∧ W.cell? ⟨g, 3, none⟩ = some (.int .i64 src) ∧ W.cell? ⟨g + 1, 0, none⟩ = some (.int .i64 (st : Int)) ∧ W.cell? ⟨g + 1, 1, none⟩ = some (.int .i64 (ph : Int)) ∧ W.cell? ⟨g + 1, 4, none⟩ = some (.slice pv N cv) from fun W hW => ⟨(HX5.out.next hW).four.1, (HX5.out.next hW).four.2.1, (HX5.out.next hW).four.2.2.1, (HX5.out.next hW).four.2.2.2.1, (HY5.out.next hW).six.1, (HY5.out.next hW).six.2.1, (HY5.out.next hW).six.2.2.2.2.1⟩)
    clear homA hgmA hy2 hy3 hy5
    have hwst : IntKind.i64.wrap ((st : Int) + 1) = (st : Int) + 1 := IntWalk.i64_in _ (by omega)
    go_cut [7] (fun s7 wx => ∃ (gr gm c2 : Nat) (p2 : Option Addr), s7 = .pointer (some ⟨gr, 0, none⟩) ∧ w5.heap.size ≤ gr ∧ w5.heap.size ≤ gm ∧ gr ≠ gm ∧ Hid (Bx wx gr [.int .i64 (N : Int), .slice p n c, .int .i64 (kind : Int), .int .i64 src, .int .i64 ((st : Int) + 1), .int .i64 (ph : Int), .bool false, .bool false, .slice p2 N c2, .slice (some ⟨gm, 0, none⟩) N N, .int .i64 0]) ∧ Hid (wx.ownsRow w5.heap.size 40 2 (.slice p2 N c2) N (vlC s.vals)) ∧ Hid (∀ k, (Value.slice p2 N c2).ownBlock = some k → k ≠ gm ∧ k ≠ gr) ∧ Hid (OwnN wx gm gm wx.heap.size N (List.replicate N []) (List.replicate N (.slice none 0 0))) ∧ Hid (Below w5.heap.size w5 wx))
    case first =>
      go_region_held3 (fun w' => w'.cell? ⟨g, 0, none⟩ = some (.int .i64 (N : Int)) ∧ w'.cell? ⟨g, 1, none⟩ = some (.slice p n c) ∧ w'.cell? ⟨g, 2, none⟩ = some (.int .i64 (kind : Int)) ∧ w'.cell? ⟨g, 3, none⟩ = some (.int .i64 src) ∧ w'.cell? ⟨g + 1, 0, none⟩ = some (.int .i64 (st : Int)) ∧ w'.cell? ⟨g + 1, 1, none⟩ = some (.int .i64 (ph : Int)) ∧ w'.cell? ⟨g + 1, 4, none⟩ = some (.slice pv N cv)) (first | (exact ⟨hx0, hx1, hx2, hx3, hy0, hy1, hy4⟩) | (exact HCA.out _ HBA.out) | (exact HCA.out _ hbB) | go_keep)
        (first
          | (go_at_call 26; (with_reducible refine (HCV.out w5.drew (HB5.out.trans ((Below.refl _ w5).drew.mono HB5.out.size))).mono ?_); rintro e w6 ⟨p2, c2, rfl, ho6, hb6⟩; have hb56 : Below w5.heap.size w5 w6 := ((Below.refl _ w5).drew).trans hb6; obtain ⟨hx0, hx1, hx2, hx3, hy0, hy1, hy4⟩ := HCA.out _ hb56; obtain ⟨wb, hrunB, homB, hgmB⟩ := HMK.out w6; have HHB := Lib.hid homB; have hbB : Below w5.heap.size w5 wb := hb56.trans (((Below.refl w6.heap.size _).grown hgmB (Nat.le_refl _) (fun k hk => by cases hk)).mono hb56.size); have HB6B := Lib.hid (show Below w6.heap.size w6 wb from (Below.refl w6.heap.size _).grown hgmB (Nat.le_refl _) (fun k hk => by cases hk)); clear homB hgmB)
          | (go_at_call 26; (with_reducible refine (HCV.out wa (HB5.out.trans (HBA.out.mono HB5.out.size))).mono ?_); rintro e w6 ⟨p2, c2, rfl, ho6, hb6⟩; have hb56 : Below w5.heap.size w5 w6 := HBA.out.trans (hb6.mono HBA.out.size); obtain ⟨hx0, hx1, hx2, hx3, hy0, hy1, hy4⟩ := HCA.out _ hb56)
          | fail)
      all_goals go_wp2_with fail
      all_goals go_meet
      · have hlt := ((show OwnN wb w6.heap.size w6.heap.size (w6.heap.size + 1) N _ _ from made_rows HHB.out (Nat.lt_succ_self _)).outer.lt _ rfl).2
        exact ⟨wb.heap.size, w6.heap.size, c2, p2, rfl, hbB.size, hb56.size, Nat.ne_of_gt hlt, Lib.hid (bx_new wb _ _), Lib.hid ((own_later ho6 HB6B.out).alloc _), Lib.hid (fun k hk => by have h1 : k < w6.heap.size := (ho6.lt k hk).2; exact ⟨Nat.ne_of_lt h1, Nat.ne_of_lt (Nat.lt_of_lt_of_le h1 HB6B.out.size)⟩), Lib.hid ((made_rows HHB.out (by show w6.heap.size < _; simp; exact Nat.lt_succ_of_lt hlt)).alloc _), Lib.hid (hbB.trans ((alloc_below wb _).mono hbB.size))⟩
      · have hlt : w5.heap.size < wa.heap.size := ((show OwnN wa w5.drew.heap.size w5.drew.heap.size (w5.drew.heap.size + 1) N _ _ from made_rows HA.out (Nat.lt_succ_self _)).outer.lt _ rfl).2
        have hs6 := hb6.size
        exact ⟨w6.heap.size, w5.heap.size, c2, p2, rfl, hb56.size, Nat.le_refl _, by omega, Lib.hid (bx_new w6 _ _), Lib.hid ((own_mono ho6 HBA.out.size).alloc _), Lib.hid (fun k hk => by have h1 : k < w6.heap.size := (ho6.lt k hk).2; have h2 : wa.heap.size ≤ k := (ho6.lt k hk).1; exact ⟨Nat.ne_of_gt (Nat.lt_of_lt_of_le hlt h2), Nat.ne_of_lt h1⟩), Lib.hid (((show OwnN wa w5.heap.size w5.heap.size _ N _ _ from made_rows HA.out (by simp; omega)).later hb6).alloc _), Lib.hid (hb56.trans ((alloc_below w6 _).mono hb56.size))⟩
    case rest =>
    obtain ⟨gr, gm, c2, p2, rfl, hgr5, hgm5, hrm, HRX, HVO, HVN, HMO, HB7⟩ := hcut
    obtain ⟨w7, hw7⟩ : ∃ w7 : World, w7 = wc := ⟨_, rfl⟩
    rw [← hw7] at HRX HVO HMO HB7 ⊢
    clear hw7 hx0 hx1 hx2 hx3 hy0 hy1 hy4 HCA HA HBA hrunA HMK HCV
    have HR7 := Lib.hid (show Bx w7 gr (rCells N p n c kind src (st + 1) ph p2 c2 gm) from HRX.out)
    have HBX := Lib.hid (show ∀ W, Below w5.heap.size w5 W → Bx W g [.int .i64 (N : Int), .slice p n c, .int .i64 (kind : Int), .int .i64 src] ∧ Bx W (g + 1) [.int .i64 (st : Int), .int .i64 (ph : Int), .bool fr, .bool false, .slice pv N cv, .slice pm N cm] ∧ Bx W (g + 2) [.int .i64 0, .int .i64 0, .bool false, .bool false, .slice none 0 0, .slice none 0 0] from fun W hW => ⟨HX5.out.next hW, HY5.out.next hW, HZ5.out.next hW⟩)
    have HB70 := Lib.hid (HB5.out.trans (HB7.out.mono HB5.out.size))
    have hgx5 : g + 2 < w5.heap.size := HZ5.out.lt
    clear HRX HX5 HY5 HZ5
    obtain ⟨hy0, hy1, hy2, hy3, hy4, hy5⟩ := (HBX.out _ HB7.out).2.1.six
    clear hwst
    go_wp2_with fail
    obtain ⟨I, hI⟩ : ∃ I, I = w7.heap.size := ⟨_, rfl⟩
    rw [← hI] at HMO
    have hI7 : I ≤ w7.heap.size := Nat.le_of_eq hI
    have hgrI : gr < I := by rw [hI]; exact HR7.out.lt
    have hgmI : gm < I := HMO.out.gi
    obtain ⟨gv, rfl⟩ : ∃ gv, p2 = some ⟨gv, 0, none⟩ := by
      rcases HVO.out.2 with ⟨_, h⟩ | ⟨gv, cap, cur, e, _⟩
      · omega
      · cases e; exact ⟨gv, rfl⟩
    obtain ⟨hvm, hvr⟩ := HVN.out gv rfl
    have hv5 : w5.heap.size ≤ gv := (HVO.out.lt gv rfl).1
    have hvI : gv < I := by rw [hI]; exact (HVO.out.lt gv rfl).2
    clear hI HVN
    have HMN := Lib.hid (show ∃ vs, OwnN w7 gm gm I N (rowsB N (upMsgs kind src E s 0)) vs from ⟨_, by rw [upMsgs_zero, rowsB_nil]; exact HMO.out⟩)
    go_loopg [54] N (fun gk v54 wr => ∃ (k : Nat) (vs : List Value), v54 = .int .i64 (k : Int) ∧ k + gk = N ∧ Hid (wr.ownsRow w5.heap.size 40 2 (.slice (some ⟨gv, 0, none⟩) N c2) N (vlC (nvK kind src N s k))) ∧ Hid (OwnN wr gm gm I N (rowsB N (upMsgs kind src E s k)) vs) ∧ Hid (Bx wr gr (rCells N p n c kind src (st + 1) ph (some ⟨gv, 0, none⟩) c2 gm)) ∧ Hid (Below w5.heap.size w5 wr) ∧ I ≤ wr.heap.size)
    case atStart => exact ⟨0, _, rfl, by omega, Lib.hid (by rw [nvK_zero _ _ HVL.out]; exact HVO.out), Lib.hid (by rw [upMsgs_zero, rowsB_nil]; exact HMO.out), HR7, HB7, hI7⟩
    case round =>
      clear HVO HMO HR7 HB7 HB70 hI7 HMN hy0 hy1 hy2 hy3 hy4 hy5
      obtain ⟨k, vs, rfl, hgk, HVO, HMO, HRB, HBB, hI7⟩ := hrel
      have HGK := Lib.hid hgk
      have hk : k ≤ N := by omega
      clear hgk
      have HWR := Lib.hid (show Below w.heap.size w wr from HB5.out.trans (HBB.out.mono HB5.out.size))
      obtain ⟨hx0, hx1, hx2, hx3, _⟩ := (HBX.out _ HBB.out).1.four
      obtain ⟨hy0, hy1, hy2, hy3, hy4, hy5⟩ := (HBX.out _ HBB.out).2.1.six
      by_cases hlt : k < N
      · have hkv : k < s.vals.length := by have := HVL.out; omega
        have hkm : k < s.mail.length := by have := HGS.out.ml; omega
        have hxb := HGS.out.va k hlt
        have hmb := HGS.out.ma k hlt
        have HAW := Lib.hid (show awk kind src s k = if fr = false ∧ s.mail[k] = [] then (s.vals[k], false) else wkF kind (k : Int) src s.vals[k] ph fr s.mail[k] from by
          unfold awk; rw [aV_at hkv, mL_at hkm, HFR.out, HPH.out])
        have HAV := Lib.hid (aV_at hkv)
        rw [aV_at hkv] at hxb
        rw [mL_at hkm] at hmb
        have hcap : capF kind N s.step ≤ 190 := by
          rw [HST.out]; unfold capF; split
          · have := hst.2 (by assumption); omega
          · omega
        obtain ⟨b, off, rfl, hc0, hc1⟩ := (HV.out.1.later HWR.out).vl hkv
        obtain ⟨bm, offm, q, d, rfl, hcm, hq⟩ := (HR.out.later HWR.out).get (List.getElem?_eq_getElem hkm)
        generalize s.vals[k] = x at *
        generalize s.mail[k] = r at *
        obtain ⟨x1, x2⟩ := x
        dsimp only at hc0 hc1 hxb
        have HQ := Lib.hid hq
        have HMB := Lib.hid hmb
        obtain ⟨⟨hxa1, hxa2⟩, hxb1, hxb2⟩ := hxb
        have hx199 : x1 ≤ 190 := by omega
        have hx200 : x2 < 200 := by omega
        have HMB2 := Lib.hid (show ∀ m ∈ r, 0 ≤ m ∧ m ≤ 199 from fun m hm => ⟨(hmb m hm).1, by have := (hmb m hm).2; omega⟩)
        clear hq hmb hcap hxa2 hxb2
        have hk0 : (0 : Int) ≤ (k : Int) := by omega
        have hkn : (k : Int) < (N : Int) := by omega
        have hd1 : decide ((k : Int) < (N : Int)) = true := by simp; omega
        have hd2 : decide (k < N) = true := by simp; omega
        go_upto_region 14 with fail
        obtain ⟨b8, B8, z8⟩ := boxed0 wr [.int .i64 x1, .int .i64 x2] 40
        obtain ⟨w8, hw8⟩ : ∃ w8 : World, w8 = wr.alloc (.cells #[.int .i64 x1, .int .i64 x2] 40) := ⟨_, rfl⟩
        obtain ⟨g9, hg9⟩ : ∃ g9, g9 = wr.heap.size := ⟨_, rfl⟩
        have e8 : (wr.alloc (.cells (List.toArray [Value.int .i64 x1, Value.int .i64 x2]) 40)) = w8 := hw8.symm
        rw [e8] at b8 B8 z8
        have HVO8 := Lib.hid (own_later HVO.out b8)
        have HMO8 := Lib.hid (HMO.out.later b8)
        have HRB8 := Lib.hid (HRB.out.next b8)
        have HBB8 := Lib.hid (HBB.out.trans (b8.mono HBB.out.size))
        have HQ8 := Lib.hid (HQ.out.later b8)
        have HCM8 := Lib.hid (below_cellOf b8 hcm)
        rw [← hw8, ← hg9]
        rw [← hg9] at B8
        have HB8 := Lib.hid B8
        have hI8 : I ≤ w8.heap.size := Nat.le_trans hI7 b8.size
        have hg98 : g9 < w8.heap.size := HB8.out.lt
        have hIg9 : I ≤ g9 := by rw [hg9]; exact hI7
        clear hw8 hg9 e8 b8 B8 z8 hc0 hc1 hx0 hx1 hx2 hx3 hy0 hy1 hy2 hy3 hy4 hy5 hd1 hd2 HVO HMO HRB HBB HWR HQ hI7
        have HSK := Lib.hid (show ∀ W, Below w8.heap.size w8 W → W.cell? ⟨g, 2, none⟩ = some (.int .i64 (kind : Int)) ∧ W.cell? ⟨g, 3, none⟩ = some (.int .i64 src) ∧ W.cell? ⟨g9, 0, none⟩ = some (.int .i64 x1) ∧ W.cell? ⟨g9, 1, none⟩ = some (.int .i64 x2) ∧ W.cell? ⟨g + 1, 1, none⟩ = some (.int .i64 (ph : Int)) ∧ W.cell? ⟨g + 1, 2, none⟩ = some (.bool fr) ∧ W.cell? ⟨g + 1, 5, none⟩ = some (.slice (some ⟨bm, offm, none⟩) N cm) ∧ W.cell? ⟨bm, offm + k, none⟩ = some (.slice q r.length d) from fun W hW => by
          have h5 := HBX.out _ (HBB8.out.trans (hW.mono HBB8.out.size))
          exact ⟨h5.1.four.2.2.1, h5.1.four.2.2.2.1, (HB8.out.next hW).two.1, (HB8.out.next hW).two.2.1, h5.2.1.six.2.1, h5.2.1.six.2.2.1, h5.2.1.six.2.2.2.2.2, below_cellOf hW HCM8.out⟩)
        obtain ⟨hs0, hs1, hs2, hs3, hs4, hs5, hs6, hs7⟩ := HSK.out w8 (Below.refl _ _)
        obtain ⟨sk, hsk⟩ : ∃ sk : Bool, sk = decide (fr = false ∧ r = []) := ⟨_, rfl⟩
        have HSKD := Lib.hid hsk
        clear hsk
        go_cut [70] (fun s70 wx => s70 = .bool sk ∧ w8 = wx)
        case first =>
          cases fr with
          | true =>
            go_wp2_with fail
            go_meet
            case rel => exact ⟨by rw [HSKD.out]; rfl, rfl⟩
          | false =>
            by_cases hr : r = []
            · subst hr
              go_wp2_with fail
              go_meet
              case rel => exact ⟨by rw [HSKD.out]; rfl, rfl⟩
            · have hr0 : 0 < r.length := List.length_pos_iff.2 hr
              have hr1 : ((r.length : Int) == 0) = false := by simp; omega
              go_wp2_with fail
              go_meet
              case rel => exact ⟨by rw [HSKD.out, decide_eq_false (fun h => hr h.2)], rfl⟩
        case rest =>
        obtain ⟨rfl, rfl⟩ := hcut
        cases sk with
        | true =>
          have hcond := of_decide_eq_true HSKD.out.symm
          have HAW2 := Lib.hid (show awk kind src s k = ((x1, x2), false) from by rw [HAW.out, if_pos hcond])
          have HN2 := Lib.hid (show nvK kind src N s (k + 1) = nvK kind src N s k from nvK_skip _ _ _ _ (by rw [HAW2.out, HAV.out]))
          have HU2 := Lib.hid (show upMsgs kind src E s (k + 1) = upMsgs kind src E s k from by rw [upMsgs_succ]; unfold vMsgs; rw [HAW2.out]; simp)
          clear hcond
          go_wp2_with fail
          go_roundg (N - (k + 1))
          case measure => have := HGK.out; omega
          case rel => exact ⟨k + 1, vs, by go_num, by omega, Lib.hid (by rw [HN2.out]; exact HVO8.out), Lib.hid (by rw [HU2.out]; exact HMO8.out), HRB8, HBB8, hI8⟩
        | false =>
          have hcond := of_decide_eq_false HSKD.out.symm
          have HAW2 := Lib.hid (show awk kind src s k = wkF kind (k : Int) src (x1, x2) ph fr r from by rw [HAW.out, if_neg hcond])
          clear hcond
          have HWK := Lib.hid (show ∀ W, Below w8.heap.size w8 W → _ from fun W hW => wake_ok kind ph fr ⟨hk1, hk3⟩ (by have h1 := HGS.out.ph; rw [HPH.out] at h1; exact h1) q d (k : Int) src (x1, x2) r W ⟨(HQ8.out.later hW).1, fun m hm => by have := HMB2.out m hm; omega⟩ hk0 (by omega) hxa1 (by show x1 ≤ 199; omega) hxb1 (by show x2 < 200; omega) HMB2.out)
          dsimp only at HWK
          have hbd := awk_bd HGS.out (src := src) hlt
          generalize wkF kind (k : Int) src (x1, x2) ph fr r = res at HWK HAW2
          rw [HAW2.out] at hbd
          obtain ⟨⟨y1, y2⟩, sy⟩ := res
          dsimp only at hbd HWK
          have hy190 : y1 ≤ 190 := by
            have h1 := hbd.1.2
            have hcap : capF kind N s.step ≤ 190 := by
              rw [HST.out]; unfold capF; split
              · have := hst.2 (by assumption); omega
              · omega
            omega
          have hyb1 := hbd.2.1.1
          have hyb2 : y2 < 200 := by have := hbd.2.1.2; omega
          have hys := hbd.2.2
          clear hbd
          go_upto_region 15 with fail
          go_cut [10, 11, 12] (fun s10 s11 s12 wx => ∃ g10 : Nat, s10 = .pointer (some ⟨g10, 0, none⟩) ∧ s11 = .bool sy ∧ s12 = .int .i64 0 ∧ w8.heap.size ≤ g10 ∧ Hid (Bx wx g10 [.int .i64 y1, .int .i64 y2]) ∧ Hid (Below w8.heap.size w8 wx))
          case first =>
            go_region_held3 (fun w' => w'.cell? ⟨g, 2, none⟩ = some (.int .i64 (kind : Int)) ∧ w'.cell? ⟨g, 3, none⟩ = some (.int .i64 src) ∧ w'.cell? ⟨g9, 0, none⟩ = some (.int .i64 x1) ∧ w'.cell? ⟨g9, 1, none⟩ = some (.int .i64 x2) ∧ w'.cell? ⟨g + 1, 1, none⟩ = some (.int .i64 (ph : Int)) ∧ w'.cell? ⟨g + 1, 2, none⟩ = some (.bool fr) ∧ w'.cell? ⟨g + 1, 5, none⟩ = some (.slice (some ⟨bm, offm, none⟩) N cm) ∧ w'.cell? ⟨bm, offm + k, none⟩ = some (.slice q r.length d))
              (first | (exact ⟨hs0, hs1, hs2, hs3, hs4, hs5, hs6, hs7⟩) | (exact HSK.out _ hbA) | (exact HSK.out _ (hbA.alloc hbA.size _)) | (exact HSK.out _ ((Below.refl _ w8).alloc (Nat.le_refl _) _)) | (exact HSK.out _ (((hbA.alloc hbA.size _).setCell (p := ⟨_, _, none⟩) hbA.size _).setCell (p := ⟨_, _, none⟩) hbA.size _)) | (exact HSK.out _ ((hbA.setCell (p := ⟨_, _, none⟩) (Nat.le_refl _) _).setCell (p := ⟨_, _, none⟩) (Nat.le_refl _) _)) | go_keep)
              (first
                | (go_at_call 13; (with_reducible refine (HWK.out w8.drew (Below.refl _ w8).drew).mono ?_); rintro e w9 ⟨rfl, hb9⟩; have hbA : Below w8.heap.size w8 w9 := ((Below.refl _ w8).drew).trans hb9; obtain ⟨hs0, hs1, hs2, hs3, hs4, hs5, hs6, hs7⟩ := HSK.out _ hbA)
                | (go_at_call 13; (with_reducible refine (HWK.out _ ((Below.refl _ w8).alloc (Nat.le_refl _) _).drew).mono ?_); rintro e w9 ⟨rfl, hb9⟩; have hza : w8.heap.size < w9.heap.size := Nat.lt_of_lt_of_le (by show w8.heap.size < (w8.alloc _).heap.size; simp) hb9.size; have hbA : Below w8.heap.size w8 w9 := ((Below.refl _ w8).alloc (Nat.le_refl _) _).drew.trans (hb9.mono ((Below.refl _ w8).alloc (Nat.le_refl _) _).drew.size); have HNB := Lib.hid ((show Bx (w8.alloc (.cells #[Value.int .i64 0, Value.int .i64 0] 40)).drew w8.heap.size [Value.int .i64 0, Value.int .i64 0] from bx_new w8 [Value.int .i64 0, Value.int .i64 0] 40).next hb9); obtain ⟨hn0, hn1, hn2, hn3⟩ := HNB.out.two; obtain ⟨hs0, hs1, hs2, hs3, hs4, hs5, hs6, hs7⟩ := HSK.out _ hbA)
                | fail)
            all_goals go_wp2_with fail
            all_goals go_meet
            · exact ⟨w9.heap.size, rfl, rfl, rfl, hbA.size, Lib.hid (bx_new w9 _ _), Lib.hid (hbA.alloc hbA.size _)⟩
            · exact ⟨w8.heap.size, rfl, rfl, rfl, Nat.le_refl _, Lib.hid ((HNB.out.setc 0 _).setc 1 _), Lib.hid ((hbA.setCell (p := ⟨w8.heap.size, 0, none⟩) (Nat.le_refl _) _).setCell (p := ⟨w8.heap.size, 1, none⟩) (Nat.le_refl _) _)⟩
          case rest =>
          obtain ⟨g10, rfl, rfl, rfl, hg10, HB10, HBC⟩ := hcut
          obtain ⟨w10, hw10⟩ : ∃ w10 : World, w10 = wc := ⟨_, rfl⟩
          rw [← hw10] at HB10 HBC ⊢
          clear hw10 HWK HSK hs0 hs1 hs2 hs3 hs4 hs5 hs6 hs7 HCM8 HQ8
          have HVO9 := Lib.hid (own_later HVO8.out HBC.out)
          have HMO9 := Lib.hid (HMO8.out.later HBC.out)
          have HRB9 := Lib.hid (HRB8.out.next HBC.out)
          have HBB9 := Lib.hid (HBB8.out.trans (HBC.out.mono HBB8.out.size))
          have hI9 : I ≤ w10.heap.size := Nat.le_trans hI8 HBC.out.size
          have hr8 := (HRB9.out.at (i := 8) rfl).1
          have hr5 := (HRB9.out.at (i := 5) rfl).1
          obtain ⟨ht0, ht1, _, _⟩ := HB10.out.two
          have hlv : (vlC (nvK kind src N s k)).length = N * 2 := by rw [vlC_len, nvK_len]
          obtain ⟨u0, hu0⟩ : ∃ u, (vlC (nvK kind src N s k))[k * 2]? = some u := ⟨_, List.getElem?_eq_getElem (by omega)⟩
          obtain ⟨u1, hu1⟩ : ∃ u, (vlC (nvK kind src N s k))[k * 2 + 1]? = some u := ⟨_, List.getElem?_eq_getElem (by omega)⟩
          have hv0 := HVO9.out.cellAt (k * 2) (by omega)
          have hv1 := HVO9.out.cellAt (k * 2 + 1) (by omega)
          rw [hu0] at hv0
          rw [hu1] at hv1
          have hf0 := HVO9.out.frozenAt (k * 2)
          have hf1 := HVO9.out.frozenAt (k * 2 + 1)
          clear hu0 hu1 hlv
          go_upto_region 16 with fail
          have HVO11 := Lib.hid (show ((w10.setCell ⟨gv, k * 2, none⟩ (.int .i64 y1)).setCell ⟨gv, k * 2 + 1, none⟩ (.int .i64 y2)).ownsRow w5.heap.size 40 2 (.slice (some ⟨gv, 0, none⟩) N c2) N (vlC (nvK kind src N s (k + 1))) from by
            rw [nvK_succ, HAW2.out]; exact own_vset (k := k) HVO9.out (y1, y2))
          have HMO11 := Lib.hid ((HMO9.out.setOther (a := ⟨gv, k * 2, none⟩) (by show gm ≠ gv; exact hvm.symm) hvI (.int .i64 y1)).setOther (a := ⟨gv, k * 2 + 1, none⟩) (by show gm ≠ gv; exact hvm.symm) hvI (.int .i64 y2))
          have HRB11 := Lib.hid (bx_oth (bx_oth HRB9.out (a := ⟨gv, k * 2, none⟩) (by show gr ≠ gv; exact hvr.symm) (.int .i64 y1)) (a := ⟨gv, k * 2 + 1, none⟩) (by show gr ≠ gv; exact hvr.symm) (.int .i64 y2))
          have HBB11 := Lib.hid ((HBB9.out.setCell (p := ⟨gv, k * 2, none⟩) hv5 (.int .i64 y1)).setCell (p := ⟨gv, k * 2 + 1, none⟩) hv5 (.int .i64 y2))
          have hI11 : I ≤ ((w10.setCell ⟨gv, k * 2, none⟩ (.int .i64 y1)).setCell ⟨gv, k * 2 + 1, none⟩ (.int .i64 y2)).heap.size := by simp [World.setCell]; exact hI9
          have hg10v : g10 ≠ gv := by omega
          have HBT11 := Lib.hid (bx_oth (bx_oth HB10.out (a := ⟨gv, k * 2, none⟩) hg10v (.int .i64 y1)) (a := ⟨gv, k * 2 + 1, none⟩) hg10v (.int .i64 y2))
          clear HVO8 HMO8 HRB8 HBB8 HVO9 HMO9 HRB9 HBB9 HBC HB10 HB8
          go_region
          obtain ⟨w11, hw11⟩ : ∃ w11 : World, w11 = ((w10.setCell ⟨gv, k * 2, none⟩ (.int .i64 y1)).setCell ⟨gv, k * 2 + 1, none⟩ (.int .i64 y2)).drew := ⟨_, rfl⟩
          have HVO := Lib.hid (own_drew HVO11.out)
          have HMO := Lib.hid HMO11.out.drew
          have HRB := Lib.hid (show Bx ((w10.setCell ⟨gv, k * 2, none⟩ (.int .i64 y1)).setCell ⟨gv, k * 2 + 1, none⟩ (.int .i64 y2)).drew gr (rCells N p n c kind src (st + 1) ph (some ⟨gv, 0, none⟩) c2 gm) from HRB11.out)
          have HBB := Lib.hid (Below.drew HBB11.out)
          have HBT := Lib.hid (show Bx ((w10.setCell ⟨gv, k * 2, none⟩ (.int .i64 y1)).setCell ⟨gv, k * 2 + 1, none⟩ (.int .i64 y2)).drew g10 [.int .i64 y1, .int .i64 y2] from HBT11.out)
          have hI12 : I ≤ ((w10.setCell ⟨gv, k * 2, none⟩ (.int .i64 y1)).setCell ⟨gv, k * 2 + 1, none⟩ (.int .i64 y2)).drew.heap.size := hI11
          rw [← hw11] at HVO HMO HRB HBB HBT hI12 ⊢
          clear hw11 HBT11 HVO11 HMO11 HRB11 HBB11 hI11 hv0 hv1 hf0 hf1 ht0 ht1 hr8 hr5
          cases sy with
          | false =>
            have HU2 := Lib.hid (show upMsgs kind src E s (k + 1) = upMsgs kind src E s k from by rw [upMsgs_succ]; unfold vMsgs; rw [HAW2.out]; simp)
            go_wp2_with fail
            go_roundg (N - (k + 1))
            case measure => have := HGK.out; omega
            case rel => exact ⟨k + 1, vs, by go_num, by omega, HVO, Lib.hid (by rw [HU2.out]; exact HMO.out), HRB, HBB, hI12⟩
          | true =>
            have HU2 := Lib.hid (show upMsgs kind src E s (k + 1) = upMsgs kind src E s k ++ E.flatMap (eMsgs kind ph k y1) from by rw [upMsgs_succ]; unfold vMsgs; rw [HAW2.out, HPH.out]; simp)
            have HSAY := Lib.hid (rsay_ok p (some ⟨gv, 0, none⟩) c n N kind k ph (st + 1) c2 gr gm I src y1 y2 E (upMsgs kind src E s k) vs w11
              (fun W hK => HJ.out.sl.later ((HB5.out.trans (HBB.out.mono HB5.out.size)).trans (hK.1.mono (Nat.le_trans HB5.out.size hgm5)))) HJ.out.g HJ.out.n20 ⟨hk1, hk3⟩
              (by have h1 := HGS.out.ph; rw [HPH.out] at h1; exact h1) HRB.out hgrI hgmI hrm HMO.out
              (by have h1 := upMsgs_len kind src E s k; have h2 : E.length ≤ 20 := by (have h3 := HJ.out.sl.elen.1; have h4 := HJ.out.n20; omega)
                  have h3 : k * (E.length * 2) ≤ 10 * 40 := Nat.mul_le_mul (by omega) (by omega)
                  omega)
              (hys rfl) (by omega) hyb1 hyb2 hlt hI12)
            obtain ⟨ht0, ht1, _, _⟩ := HBT.out.two
            have hph1 := (HBX.out _ HBB.out).2.1.six.2.1
            go_wp2_with fail
            refine HSAY.out.mono ?_; rintro e w12 ⟨rfl, vs', hO12, hK12⟩
            have HO12 := Lib.hid hO12
            have HK12 := Lib.hid hK12
            clear hO12 hK12
            go_wp2_with fail
            go_roundg (N - (k + 1))
            case measure => have := HGK.out; omega
            case rel => exact ⟨k + 1, vs', by go_num, by omega, Lib.hid (own_keep HK12.out HVO.out (fun j hj => by cases hj; exact ⟨hvI, hvm⟩)), Lib.hid (by rw [HU2.out]; exact HO12.out), Lib.hid (HK12.out.bx HRB.out hgrI hrm), Lib.hid (HBB.out.trans (HK12.out.1.mono hgm5)), Nat.le_trans hI12 HK12.out.size⟩
      · obtain rfl : k = N := by omega
        have hd1 : decide ((k : Int) < (k : Int)) = false := by simp
        have hd2 : decide (k < k) = false := by simp
        have hr10 := (HRB.out.at (i := 10) rfl).1
        clear hlt
        go_upto_region 23 with fail
        have hr9 := (HRB.out.at (i := 9) rfl).1
        go_wp2_with fail
        obtain ⟨ms, hms⟩ : ∃ ms, ms = upMsgs kind src E s k := ⟨_, rfl⟩
        rw [← hms] at HMO
        have HMS := Lib.hid hms
        clear hms
        have HAN := Lib.hid (show ∀ i, anyK ms (i + 1) = (anyK ms i || decide (0 < (boxOf ms i).length)) from anyK_succ ms)
        have HNT := Lib.hid (show ∀ i, i < k → NotIn vs gr ∧ NotIn vs gv from fun i _ => ⟨fun j u hj e => by
          have hjl : j < (rowsB k ms).length := by rw [rowsB_len, ← HMO.out.vlen]; exact (List.getElem?_eq_some_iff.1 hj).1
          have := ((HMO.out.inner j _ u (List.getElem?_eq_getElem hjl) hj).lt _ e).1
          omega, fun j u hj e => by
          have hjl : j < (rowsB k ms).length := by rw [rowsB_len, ← HMO.out.vlen]; exact (List.getElem?_eq_some_iff.1 hj).1
          have := ((HMO.out.inner j _ u (List.getElem?_eq_getElem hjl) hj).lt _ e).1
          omega⟩)
        have HLE := Lib.hid (show ∀ i, (boxOf ms i).length ≤ 1000 from fun i => by
          have h1 := boxOf_len ms i
          rw [HMS.out] at h1 ⊢
          have h2 := upMsgs_len kind src E s k
          have h3 : E.length ≤ 20 := by (have h3 := HJ.out.sl.elen.1; have h4 := HJ.out.n20; omega)
          have h4 : k * (E.length * 2) ≤ 10 * 40 := Nat.mul_le_mul (by omega) (by omega)
          omega)
        go_loopg [123, 13] k (fun gk v123 v13 wr => ∃ i : Nat, v123 = .int .i64 (i : Int) ∧ i + gk = k ∧ v13 = .bool (anyK ms i) ∧ Hid (wr.ownsRow w5.heap.size 40 2 (.slice (some ⟨gv, 0, none⟩) k c2) k (vlC (nvK kind src k s k))) ∧ Hid (OwnN wr gm gm I k (sK ms k i) vs) ∧ Hid (Bx wr gr (rCells k p n c kind src (st + 1) ph (some ⟨gv, 0, none⟩) c2 gm)) ∧ Hid (Below w5.heap.size w5 wr) ∧ I ≤ wr.heap.size)
        case atStart => exact ⟨0, rfl, by omega, rfl, HVO, Lib.hid (by rw [sK_zero]; exact HMO.out), HRB, HBB, hI7⟩
        case round =>
          clear HVO HMO HRB HBB hI7 HWR hx0 hx1 hx2 hx3 hy0 hy1 hy2 hy3 hy4 hy5 hr9 hr10 hd1 hd2 hk HGK
          obtain ⟨i, rfl, hgi, rfl, HVO, HMO, HRB, HBB, hI7⟩ := hrel
          have HGI := Lib.hid hgi
          have hi : i ≤ k := by omega
          clear hgi
          by_cases hlt : i < k
          · have hiv : i < vs.length := by rw [HMO.out.vlen]; exact hlt
            have hrow := HMO.out.inner i _ _ (sK_at ms hlt) (List.getElem?_eq_getElem hiv)
            have hcl := HMO.out.outer.cellAt i (by omega)
            rw [List.getElem?_eq_getElem hiv] at hcl
            have HVI := Lib.hid (List.getElem?_eq_getElem hiv)
            have HNO := Lib.hid (HNT.out i hlt)
            generalize vs[i] = u at hrow hcl HVI
            obtain ⟨q, d, rfl⟩ := own_slice hrow
            obtain ⟨len, hlen⟩ : ∃ len, len = (boxOf ms i).length := ⟨_, rfl⟩
            have hlen1 : len ≤ 1000 := by rw [hlen]; exact HLE.out i
            have HLN := Lib.hid hlen
            rw [← hlen] at hrow HVI
            have HROW := Lib.hid hrow
            have HSO := Lib.hid (sortI_ok q _ d I (boxOf ms i) wr hrow (by omega) hI7)
            have HNX := Lib.hid (sK_succ ms k i)
            have HAT := Lib.hid (sK_at ms hlt)
            rw [← hlen] at hcl
            have hi0 : (0 : Int) ≤ (i : Int) := by omega
            have hik : (i : Int) < (k : Int) := by omega
            have hd1 : decide ((i : Int) < (k : Int)) = true := by simp; omega
            have hd2 : decide (i < k) = true := by simp; omega
            have hp1 : decide ((0 : Int) < (len : Int)) = decide (0 < len) := by by_cases h : 0 < len <;> simp [h] <;> omega
            clear hlen hrow hlt hiv
            go_wp2_with fail
            refine HSO.out.mono ?_; rintro e w8 ⟨rfl, hown, hgr⟩
            have HMO8 := Lib.hid (show OwnN w8 gm gm I k (sK ms k (i + 1)) vs from by
              rw [HNX.out]
              exact HMO.out.inRow HAT.out HVI.out hgr (by rw [sortI_len]; rw [← HLN.out]; exact hown))
            have HVO8 := Lib.hid (own_grown HVO.out hgr (fun j hj e => by cases hj; exact HNO.out.2 i _ HVI.out e))
            have HRB8 := Lib.hid (HRB.out.grown hgr (fun e => HNO.out.1 i _ HVI.out e))
            have HBB8 := Lib.hid (HBB.out.grown hgr HBB.out.size (fun j hj => by have h1 := ((HROW.out).lt j hj).1; omega))
            have hI8 : I ≤ w8.heap.size := Nat.le_trans hI7 hgr.size
            have HA2 := Lib.hid (show anyK ms (i + 1) = (anyK ms i || decide (0 < len)) from by rw [HAN.out i, ← HLN.out])
            clear hown hgr HMO HVO HRB HBB HSO hcl hI7 HROW
            generalize anyK ms i = ab at HA2
            cases ab with
            | true =>
              go_wp2_with fail
              go_roundg (k - (i + 1))
              case measure => have := HGI.out; omega
              case rel => exact ⟨i + 1, by go_num, by omega, by rw [HA2.out]; rfl, HVO8, HMO8, HRB8, HBB8, hI8⟩
            | false =>
              go_wp2_with fail
              go_roundg (k - (i + 1))
              case measure => have := HGI.out; omega
              case rel => exact ⟨i + 1, by go_num, by omega, by rw [HA2.out]; rfl, HVO8, HMO8, HRB8, HBB8, hI8⟩
          · obtain rfl : i = k := by omega
            have hd1 : decide ((i : Int) < (i : Int)) = false := by simp
            have hd2 : decide (i < i) = false := by simp
            have HSA := Lib.hid (show sK ms i i = nMail kind src i E s from by rw [HMS.out]; exact sK_all kind src i E s)
            have HAA := Lib.hid (show anyK ms i = anyL (nMail kind src i E s) from by rw [HMS.out]; rfl)
            have HVA := Lib.hid (nvK_all kind src i s)
            have HMO8 := Lib.hid (show OwnN wr gm gm I i (nMail kind src i E s) vs from by rw [← HSA.out]; exact HMO.out)
            have HVO8 := Lib.hid (show wr.ownsRow w5.heap.size 40 2 (.slice (some ⟨gv, 0, none⟩) i c2) i (vlC (nVals kind src i s)) from by rw [← HVA.out]; exact HVO.out)
            have hvn : (nVals kind src i s).length = i := by simp [nVals]
            have HVN := Lib.hid hvn
            have HZ5 := Lib.hid ((HBX.out _ HBB.out).2.2)
            have HB5R := Lib.hid (HB5.out.trans (HBB.out.mono HB5.out.size))
            have hgw : w.heap.size = g := HG.out.symm
            have HGW := Lib.hid hgw
            have hG0 : w.heap.size ≤ w5.heap.size := by omega
            clear HVO HMO hvn hgw hlt HAN HNT HLE HMS HSA HVA
            generalize anyK ms i = ab at HAA
            cases ab with
            | true =>
              have HNF := Lib.hid (nextF_any (kind := kind) (src := src) (N := i) (E := E) HDN.out HAA.out.symm)
              obtain ⟨hz0, hz1, hz2, hz3, hz4, hz5⟩ := HZ5.out.six
              obtain ⟨hh0, hh1, hh2, hh3, hh4, hh5⟩ := HZ5.out.sixF
              have hr4 := (HRB.out.at (i := 4) rfl).1
              have hr5 := (HRB.out.at (i := 5) rfl).1
              have hr6 := (HRB.out.at (i := 6) rfl).1
              have hr7 := (HRB.out.at (i := 7) rfl).1
              have hr8 := (HRB.out.at (i := 8) rfl).1
              have hr9 := (HRB.out.at (i := 9) rfl).1
              go_wp2_with fail
              refine bodyPost_ret (v := .tuple #[.agg #[.int .i64 ((st + 1 : Nat) : Int), .int .i64 (ph : Int), .bool false, .bool false, .slice (some ⟨gv, 0, none⟩) i c2, .slice (some ⟨gm, 0, none⟩) i i], .int .i64 0]) ?_ rfl ⟨_, rfl, ?_, ?_⟩
              · rw [results_cell_tmp rfl]
                go_simp
              · rw [HNF.out, ← HST.out, ← HPH.out]
                exact (RdSt.set6 (st_of (s := ⟨s.step + 1, s.phase, false, false, nVals kind src i s, nMail kind src i E s⟩) HVO8.out HMO8.out (Nat.le_refl _) hgm5 rfl rfl) hgx5 _ _ _ _ _ _).mono hG0
              · exact setc6 HB5R.out (by have := HGW.out; omega) _ _ _ _ _ _
            | false =>
              have HNF := Lib.hid (nextF_quiet (kind := kind) (src := src) (N := i) (E := E) HDN.out HAA.out.symm)
              rw [HPH.out] at HNF
              have HQU := Lib.hid (rquiet_ok p (some ⟨gv, 0, none⟩) c n i kind (st + 1) ph c2 gr gm src (nVals kind src i s) wr hk3 HRB.out (Sl.of_own HVO8.out) HVN.out.symm (by have h1 := HGS.out.ph; rw [HPH.out] at h1; omega))
              generalize hqq : quF kind ph ((nVals kind src i s).any fun x => x.2 == -1) = qq at HNF HQU
              obtain ⟨qp, qf, qd⟩ := qq
              clear hqq
              dsimp only at HNF HQU
              go_wp2_with fail
              refine HQU.out.mono ?_; rintro e w9 ⟨rfl, hgr9, hbx9⟩
              unfold rCellsF at hbx9
              have HVO9 := Lib.hid (own_grown HVO8.out hgr9 (fun j hj e => by cases hj; cases e; exact hvr rfl))
              have HMO9 := Lib.hid (show OwnN w9 gm gm I i (nMail kind src i E s) vs from ⟨own_grown HMO8.out.outer hgr9 (fun j hj e => by cases hj; cases e; exact hrm rfl), HMO8.out.len, HMO8.out.gi, fun v r u h1 h2 => own_grown (HMO8.out.inner v r u h1 h2) hgr9 (fun j hj e => by cases e; have := ((HMO8.out.inner v r u h1 h2).lt _ hj).1; omega), HMO8.out.apart⟩)
              have HZ9 := Lib.hid (HZ5.out.grown hgr9 (fun e => by cases e; omega))
              have HB9 := Lib.hid (HB5R.out.grown hgr9 HB5R.out.size (fun j hj => by cases hj; omega))
              obtain ⟨hz0, hz1, hz2, hz3, hz4, hz5⟩ := HZ9.out.six
              obtain ⟨hh0, hh1, hh2, hh3, hh4, hh5⟩ := HZ9.out.sixF
              have hr4 := (hbx9.at (i := 4) rfl).1
              have hr5 := (hbx9.at (i := 5) rfl).1
              have hr6 := (hbx9.at (i := 6) rfl).1
              have hr7 := (hbx9.at (i := 7) rfl).1
              have hr8 := (hbx9.at (i := 8) rfl).1
              have hr9 := (hbx9.at (i := 9) rfl).1
              clear hgr9 hbx9 HQU
              go_wp2_with fail
              refine bodyPost_ret (v := .tuple #[.agg #[.int .i64 ((st + 1 : Nat) : Int), .int .i64 (qp : Int), .bool qf, .bool qd, .slice (some ⟨gv, 0, none⟩) i c2, .slice (some ⟨gm, 0, none⟩) i i], .int .i64 0]) ?_ rfl ⟨_, rfl, ?_, ?_⟩
              · rw [results_cell_tmp rfl]
                go_simp
              · rw [HNF.out, ← HST.out]
                exact (RdSt.set6 (st_of (s := ⟨s.step + 1, qp, qf, qd, nVals kind src i s, nMail kind src i E s⟩) HVO9.out HMO9.out (Nat.le_refl _) hgm5 rfl rfl) hgx5 _ _ _ _ _ _).mono hG0
              · exact setc6 HB9.out (by have := HGW.out; omega) _ _ _ _ _ _
end Go.Proofs.Ytiaflhlfodcbjaa
