/- The walk of store.Build. -/
import Derived.Test.YtcaolnpkpialdaaPenHops
import Derived.Test.YtcaolnpkpialdaaPStore
import Derived.Test.YtcaolnpkpialdaaRevG
import Derived.Test.YtcaolnpkpialdaaHops
import Derived.Test.YtcaolnpkpialdaaMine
import Derived.Test.YtcaolnpkpialdaaWrap
import Derived.OwnWalk
namespace Go.Proofs.Ytcaolnpkpialdaa
open Go.RowKit Go.Sort Go.Proofs
def vsI (l : List Nat) : List Int := l.map fun (x : Nat) => (x : Int)
theorem its_nts (l : List Nat) : its (vsI l) = nts l := by unfold its vsI nts; rw [List.map_map]; rfl
set_option maxHeartbeats 8000000 in
set_option maxRecDepth 100000 in
theorem build_ok (N n c w0 W : Nat) (p : Option Addr) (E : List Eg) (w : World) (h : Sl w 3 (.slice p n c) n (ecs E)) (hG : InG N E) (hN : N ≤ 8) (hn : n ≤ 10) (hw : w0 < W) (hW : W ≤ 8) :
    Calls Try.prog 28 #[.agg #[.int .i64 (N : Int), .slice p n c], .int .i64 (w0 : Int), .int .i64 (W : Int)] w fun e w' => ∃ p' c', e = .returned (.tuple #[.slice p' (wrapL (partL w0 W N E)).length c', .int .i64 0]) ∧ w'.ownsRow w.heap.size 5 1 (.slice p' (wrapL (partL w0 W N E)).length c') (wrapL (partL w0 W N E)).length (bys (wrapL (partL w0 W N E))) ∧ Below w.heap.size w w' := by
  obtain ⟨hln, hnc, hc63⟩ := h.elen
  have hE : E.length ≤ 10 := by omega
  have HL := Lib.hid h
  have HREV := Lib.hid (fun (V : World) (hV : Below w.heap.size w V) => reverseG_ok N n c p E V (h.later hV) hG (by omega) (by omega))
  have HMI := Lib.hid (fun (V : World) => mine_any w0 N W V hw (by omega) hW)
  have HO := Lib.hid (fun (v : Nat) (hv : v < N) (V : World) (hV : Below w.heap.size w V) => (show Calls Try.prog 31 #[.agg #[.int .i64 (N : Int), .slice p n c], .int .i64 (v : Int)] V fun e w' => ∃ p' c', e = .returned (.tuple #[.slice p' (outH E v).length c', .int .i64 0]) ∧ w'.ownsRow V.heap.size 104 2 (.slice p' (outH E v).length c') (outH E v).length (mcs (outH E v)) ∧ Below V.heap.size V w' from hopsG_ok N n c v p E V (h.later hV) hG (by omega) (by omega) hv))
  have HIn := Lib.hid (fun (v : Nat) (hv : v < N) (V : World) (q : Option Addr) (d : Nat) (hq : Sl V 3 (.slice q n d) n (ecs (srt cfE (revL E)))) => (show Calls Try.prog 31 #[.agg #[.int .i64 (N : Int), .slice q n d], .int .i64 (v : Int)] V fun e w' => ∃ p' c', e = .returned (.tuple #[.slice p' (inH E v).length c', .int .i64 0]) ∧ w'.ownsRow V.heap.size 104 2 (.slice p' (inH E v).length c') (inH E v).length (mcs (inH E v)) ∧ Below V.heap.size V w' from hopsG_ok N n d v q (srt cfE (revL E)) V hq hG.rev.srt (by omega) (by omega) hv))
  have HKO := Lib.hid (outH_ok hG hE)
  have HKI := Lib.hid (inH_ok hG hE)
  have HPL := Lib.hid (partL_len hG hE hw hW hN)
  have HPB := Lib.hid (inkS_bytes w0 W N (mineN w0 N W) (outH E) (inH E))
  have HIL := Lib.hid (inkS_len (w := w0) (W := W) (N := N) (by omega) (by omega) (by omega) (outH_ok hG hE) (inH_ok hG hE))
  have HMN := Lib.hid (mineN_int w0 N W)
  have HMLT := Lib.hid (mineN_lt (w := w0) (N := N) (W := W) (by omega))
  have HPD := Lib.hid (show partL w0 W N E = inkS w0 W N (mineN w0 N W) (outH E) (inH E) from rfl)
  obtain ⟨ct, hct⟩ : ∃ ct, ct = cntV w0 N W := ⟨_, rfl⟩
  have hctN : ct ≤ N := by rw [hct]; exact cntV_leN (by omega)
  have HCT := Lib.hid (show ct = (mineN w0 N W).length from by rw [mineN_len]; exact hct)
  rw [← hct] at HMI
  rw [show mineL w0 N W = vsI (mineN w0 N W) from HMN.out] at HMI
  rw [show its (vsI (mineN w0 N W)) = nts (mineN w0 N W) from its_nts _] at HMI
  generalize partL w0 W N E = PL at *
  generalize mineN w0 N W = vs at *
  generalize outH E = fo at *
  generalize inH E = fi at *
  generalize srt cfE (revL E) = R at *
  clear HMN hct hE hln hG
  obtain ⟨b1, B1, z1⟩ := boxed0 w [.int .i64 (N : Int), .slice p n c] 25
  have HX1 := Lib.hid B1
  have HB1 := Lib.hid b1
  obtain ⟨hx0, hx1, _, _⟩ := B1.two
  clear b1 B1 h
  go_enter Try.func28, Try.ntmps28
  go_wp2_with fail
  obtain ⟨gb1, hg1⟩ : ∃ gb1, gb1 = w.heap.size := ⟨_, rfl⟩
  rw [← hg1] at HX1 hx0 hx1 ⊢
  generalize (w.alloc (.cells #[.int .i64 (N : Int), .slice p n c] 25)) = w1 at *
  clear hg1
  refine (HREV.out _ HB1.out).mono ?_; rintro e w2 ⟨p2, c2, rfl, ho2, hb2⟩
  have HX2 := Lib.hid (HX1.out.next hb2)
  have HB2 := Lib.hid (HB1.out.trans (hb2.mono HB1.out.size))
  have HS2 := Lib.hid (Sl.of_own ho2)
  obtain ⟨b3, B3, z3⟩ := boxed0 w2 [.int .i64 (N : Int), .slice p2 n c2] 25
  have HX3 := Lib.hid (HX2.out.next b3)
  have HY3 := Lib.hid B3
  have HS3 := Lib.hid (HS2.out.later b3)
  have HB3 := Lib.hid (HB2.out.trans (b3.mono HB2.out.size))
  clear hx0 hx1 ho2 hb2 b3 B3 z1 HX1 HB1 HX2
  obtain ⟨hx0, hx1, _, _⟩ := HX3.out.two
  go_wp2_with fail
  obtain ⟨gb2, hg2⟩ : ∃ gb2, gb2 = w2.heap.size := ⟨_, rfl⟩
  rw [← hg2] at HY3 ⊢
  clear hg2 z3 HB2 HS2
  generalize (w2.alloc (.cells #[.int .i64 (N : Int), .slice p2 n c2] 25)) = w3 at *
  refine (HMI.out _).mono ?_; rintro e w4 ⟨p4, c4, rfl, ho4, hb4⟩
  have HS4 := Lib.hid (Sl.of_own ho4)
  have hct4 : ct ≤ c4 ∧ c4 ≤ 9223372036854775807 := by
    obtain ⟨p', c', hp, h1, h2, h3, _⟩ := HS4.out
    cases hp
    exact ⟨h1, by unfold maxLen at h2; omega⟩
  obtain ⟨hct5, hct6⟩ := hct4
  have HX4 := Lib.hid (HX3.out.next hb4)
  have HY4 := Lib.hid (HY3.out.next hb4)
  have HR4 := Lib.hid (HS3.out.later hb4)
  have HB4 := Lib.hid (HB3.out.trans (hb4.mono HB3.out.size))
  obtain ⟨b5, B5, z5⟩ := boxed0 w4 [.slice none 0 0] 133
  have HI5 := Lib.hid (show InkO (w4.alloc (.cells #[.slice none 0 0] 133)) (w4.heap.size + 1) w4.heap.size [] none from ⟨none, 0, 0, B5, World.ownsRow_nil _ _ _ _, rfl⟩)
  have HX5 := Lib.hid (HX4.out.next b5)
  have HB5 := Lib.hid b5
  clear hx0 hx1 ho4 hb4 b5 B5 HX3 HY3 HS3 HB3
  obtain ⟨hx0, hx1, _, _⟩ := HX5.out.two
  go_upto_region 8 with fail
  obtain ⟨g, hg⟩ : ∃ g, g = w4.heap.size := ⟨_, rfl⟩
  have hgw : g ≤ w4.heap.size := Nat.le_of_eq hg
  have HGE := Lib.hid hg
  rw [← hg] at HI5 z5 HB5 ⊢
  generalize (w4.alloc (.cells #[.slice none 0 0] 133)) = w5 at *
  clear hg
  obtain ⟨b6, -, z6⟩ := boxed0 w5 [.int .i64 (w0 : Int), .int .i64 (W : Int), .int .i64 (N : Int)] 3
  have HB6 := Lib.hid b6
  have HS6 := Lib.hid (sl_newN w5 (nts [w0, W, N]) 3 3 1 (by decide) rfl)
  clear b6
  go_wp2_with fail
  refine (penput_ok g (g + 1) 3 3 _ [w0, W, N] [] none w5 _ HI5.out (Nat.lt_succ_self _) z5 HB6.out (Nat.le_refl _) HS6.out (by intro x hx; simp at hx; omega) (by simp) (by omega)).mono ?_; rintro e w7 ⟨rfl, ⟨o7, hi7, -⟩, -, hb7⟩
  have HI7 := Lib.hid (show InkO w7 (g + 1) g (inkS w0 W N (vs.take 0) fo fi) o7 from by rw [List.nil_append] at hi7; simpa [inkS] using hi7)
  have HB7 := Lib.hid (show Below g w4 w7 from (HB5.out.trans ((HB6.out.mono (by omega)).trans hb7)))
  clear hi7 hb7 hx0 hx1 z6 HI5 HX5 HB5 HB6 HS6
  go_wp2_with fail
  go_loopg [48] ct (fun gk v48 wr => ∃ (k : Nat) (o : Option Nat), v48 = .int .i64 (k : Int) ∧ k + gk = ct ∧ Hid (InkO wr (g + 1) g (inkS w0 W N (vs.take k) fo fi) o) ∧ Hid (Below g w4 wr))
  case atStart => exact ⟨0, o7, rfl, by omega, HI7, HB7⟩
  case round =>
    clear HI7 HB7 z5
    obtain ⟨k, o, rfl, hgk, HI, HB⟩ := hrel
    have HGK := Lib.hid hgk
    have hk : k ≤ ct := by omega
    have HBr := Lib.hid (show Below w4.heap.size w4 wr from by have h := HB.out; rw [HGE.out] at h; exact h)
    have HBw := Lib.hid (show Below w.heap.size w wr from HB4.out.trans (HBr.out.mono HB4.out.size))
    clear hgk
    by_cases hlt : k < ct
    · have hkl : k < vs.length := by have := HCT.out; omega
      obtain ⟨b2, off2, rfl, hs0⟩ := (HS4.out.later HBr.out).get (nts_at hkl)
      have hv := HMLT.out _ (List.getElem_mem hkl)
      have HTS := Lib.hid (show inkS w0 W N (vs.take (k + 1)) fo fi = inkS w0 W N (vs.take k) fo fi ++ hopL (fo vs[k]) ++ hopL (fi vs[k]) from by rw [List.take_succ_eq_append_getElem hkl, inkS_snoc])
      have HLK := Lib.hid (HIL.out (vs.take k))
      have hlk2 : (vs.take k).length ≤ 8 := by rw [List.length_take]; omega
      generalize vs[k] = v at hs0 hv HTS
      have HKo := HKO.out v
      have HKi := HKI.out v
      have hrs1 := Lib.hid (HKo.rise (by omega))
      have hrs2 := Lib.hid (HKi.rise (by omega))
      have hto1 := Lib.hid (show ∀ h ∈ fo v, h.1 < 1000 ∧ h.2 < 4398046511104 from fun h hh => by have := HKo.tow h hh; omega)
      have hto2 := Lib.hid (show ∀ h ∈ fi v, h.1 < 1000 ∧ h.2 < 4398046511104 from fun h hh => by have := HKi.tow h hh; omega)
      have hlo1 := HKo.len
      have hlo2 := HKi.len
      have hhl1 := hopL_len HKo (by omega)
      have HOv := Lib.hid (HO.out v hv wr HBw.out)
      have HIv := Lib.hid (HIn.out v hv)
      generalize hfo : fo v = lo at *
      generalize hfi : fi v = li at *
      have hk0 : (0 : Int) ≤ (k : Int) := by omega
      have hkn : (k : Int) < (ct : Int) := by omega
      have hd1 : decide ((k : Int) < (ct : Int)) = true := by simp; omega
      have hd2 : decide (k < ct) = true := by simp; omega
      have HX := Lib.hid (HX4.out.next HBr.out)
      have HY := Lib.hid (HY4.out.next HBr.out)
      obtain ⟨hx0, hx1, _, _⟩ := HX.out.two
      clear hlt hfo hfi HKo HKi
      go_wp2_with fail
      refine HOv.out.mono ?_; rintro e wa ⟨pa, ca, rfl, hoa, hba⟩
      have HYa := Lib.hid (HY.out.next hba)
      have HSa := Lib.hid (Sl.of_own hoa)
      have HFa := Lib.hid (show ∀ b off, pa = some ⟨b, off, none⟩ → wr.heap.size ≤ b ∧ b < wa.heap.size from fun b off e => hoa.lt b (by rw [e]; rfl))
      have HIa := Lib.hid (HI.out.keep hba)
      have HRa := Lib.hid ((HR4.out.later HBr.out).later hba)
      have HBa := Lib.hid (HB.out.trans (hba.mono (by have := HI.out.box; omega)))
      have hza := hba.size
      have HGr := Lib.hid HI.out.box
      clear hx0 hx1 hoa hba hs0
      obtain ⟨hx0, hx1, _, _⟩ := HYa.out.two
      go_wp2_with fail
      refine (HIv.out wa p2 c2 HRa.out).mono ?_; rintro e wb ⟨pb, cb, rfl, hob, hbb⟩
      have HSb := Lib.hid (Sl.of_own hob)
      have HFb := Lib.hid (show ∀ b off, pb = some ⟨b, off, none⟩ → wa.heap.size ≤ b ∧ b < wb.heap.size from fun b off e => hob.lt b (by rw [e]; rfl))
      have HSab := Lib.hid (HSa.out.later hbb)
      have HIb := Lib.hid (HIa.out.keep hbb)
      have HBb := Lib.hid (HBa.out.trans (hbb.mono (by have := HIa.out.box; omega)))
      have hzb := hbb.size
      have hgwb : g + 1 ≤ wb.heap.size := HIb.out.box
      have HOL := Lib.hid (show ∀ j, o = some j → j < wr.heap.size from fun j hj => (HI.out.lt j hj).2)
      clear hx0 hx1 hob hbb
      go_wp2_with fail
      refine (penhops_ok g (g + 1) lo.length ca pa lo _ o wb HIb.out (Nat.lt_succ_self _) hgwb HSab.out (fun b off e => ⟨by have := HFa.out b off e; have := HGr.out; omega, fun e2 => by have := HFa.out b off e; have := HOL.out b e2; omega⟩) hrs1.out hto1.out (by omega) (by have := HLK.out; omega)).mono ?_; rintro e wc ⟨rfl, ⟨oc, hic, hnc⟩, hkc, hbc⟩
      have HIc := Lib.hid hic
      have HNc := Lib.hid hnc
      have HSc := Lib.hid (HSb.out.keepB hkc (fun b off e => ⟨by have := HFb.out b off e; have := HGr.out; omega, fun e2 => by have := HFb.out b off e; have := HOL.out b e2; omega⟩))
      have HBc := Lib.hid (HBb.out.trans hbc)
      have hgwc : g + 1 ≤ wc.heap.size := HIc.out.box
      clear hic hnc hkc hbc
      go_wp2_with fail
      refine (penhops_ok g (g + 1) li.length cb pb li _ oc wc HIc.out (Nat.lt_succ_self _) hgwc HSc.out (fun b off e => ⟨by have := HFb.out b off e; have := HGr.out; omega, HNc.out.far (HFb.out b off e).2 (fun e2 => by have := HFb.out b off e; have := HOL.out b e2; omega)⟩) hrs2.out hto2.out (by omega) (by have := HLK.out; rw [List.length_append]; omega)).mono ?_; rintro e wd ⟨rfl, ⟨od, hid, -⟩, -, hbd⟩
      have HId := Lib.hid (show InkO wd (g + 1) g (inkS w0 W N (vs.take (k + 1)) fo fi) od from by rw [HTS.out]; exact hid)
      have HBd := Lib.hid (HBc.out.trans hbd)
      clear hid hbd
      go_wp2_with fail
      go_roundg (ct - (k + 1))
      case measure => have := HGK.out; omega
      case rel => exact ⟨k + 1, od, by go_num, by omega, HId, HBd⟩
    · obtain rfl : ct = k := by omega
      have hd1 : decide ((ct : Int) < (ct : Int)) = false := by simp
      have hd2 : decide (ct < ct) = false := by simp
      have HIF := Lib.hid (show InkO wr (g + 1) g PL o from by rw [HPD.out]; have h := HI.out; rw [List.take_of_length_le (by have := HCT.out; omega)] at h; exact h)
      have HPB2 := Lib.hid (show AllB PL from by rw [HPD.out]; exact HPB.out)
      obtain ⟨pk, nk, ck, hbx, hok, -⟩ := HIF.out
      have hnk : nk ≤ 20000 := by have := hok.1; rw [bys_len] at this; have := HPL.out; omega
      have HIB := Lib.hid (IsB.of_own hok HPB2.out)
      have hcell := hbx.one
      clear hbx hok hlt
      go_wp2_with fail
      refine (wrap_any pk ck nk PL _ HIB.out hnk).mono ?_; rintro e w10 ⟨p10, c10, rfl, ho10, hb10⟩
      go_wp2_with fail
      go_ret2
      exact ⟨p10, c10, rfl, own_mono ho10 HBw.out.size, HBw.out.trans (hb10.mono HBw.out.size)⟩
end Go.Proofs.Ytcaolnpkpialdaa
