/- The walk of ckpt.Encode, at what may be saved. -/
import Derived.Test.YtmdbcknlipahgaaDoorEncPut
import Derived.Test.YtmdbcknlipahgaaDoorCMay
import Derived.Test.YtmdbcknlipahgaaDoorWrap
import Derived.OwnWalk
namespace Go.Proofs.YtmdbcknlipahgaaDoor
open Go.RowKit Go.Sort Go.Proofs
theorem pairL_append (a b : List (Nat × Nat)) : pairL (a ++ b) = pairL a ++ pairL b := by simp [pairL]
theorem pairL_take_le (l : List (Nat × Nat)) (k : Nat) : (pairL (l.take k)).length ≤ (pairL l).length := by
  have h : pairL l = pairL (l.take k) ++ pairL (l.drop k) := by rw [← pairL_append, List.take_append_drop]
  rw [h, List.length_append]; omega
theorem pairL_succ {l : List (Nat × Nat)} {k : Nat} (h : k < l.length) : pairL (l.take (k + 1)) = pairL (l.take k) ++ putsN [l[k].1, l[k].2] := by
  rw [List.take_succ_eq_append_getElem h, pairL_append]
  simp [pairL, putsN]
/-- the first numbers -/
def encA (s : Sv) : List Nat := putsN [s.step, s.phase, b01 s.fresh, s.vals.length]
theorem encL_eq (s : Sv) : encL s = ((encA s ++ pairL s.vals) ++ putsN [s.mail.length]) ++ pairL s.mail := by
  simp [encL, encA, putsN, List.append_assoc]
theorem b01_int (b : Bool) : ((b01 b : Nat) : Int) = if b then 1 else 0 := by cases b <;> rfl
set_option maxHeartbeats 8000000 in
set_option maxRecDepth 100000 in
theorem encode_ok (v : Value) (s : Sv) (w : World) (hv : IsSv w v s) (hs : SvOk s) (hle : (encL s).length ≤ 20000) :
    Calls Tryd.prog 19 #[v] w fun e w' => ∃ p c, e = .returned (.tuple #[.slice p (wrapL (encL s)).length c, .int .i64 0]) ∧ w'.ownsRow w.heap.size 5 1 (.slice p (wrapL (encL s)).length c) (wrapL (encL s)).length (bys (wrapL (encL s))) ∧ Below w.heap.size w w' := by
  have HMAY := Lib.hid (fun (W : World) (hW : Below w.heap.size w W) => cmay_ok v s W (hv.later hW) hs.1)
  have hin := hs.1
  have hsr := hs.2
  obtain ⟨p, p', n, c, m, c', rfl, hsv, hsm⟩ := hv
  have HEL := Lib.hid (encL_eq s)
  have HEA := Lib.hid (show encA s = putsN [s.step, s.phase, b01 s.fresh, s.vals.length] from rfl)
  have HLA := Lib.hid (show (encA s).length + (pairL s.vals).length + (pairL s.mail).length ≤ 20000 from by rw [encL_eq] at hle; simp only [List.length_append] at hle; omega)
  have HLB := Lib.hid (show (encA s).length + (pairL s.vals).length + (putsN [s.mail.length]).length + (pairL s.mail).length ≤ 20000 from by rw [encL_eq] at hle; simp only [List.length_append] at hle; omega)
  have HAB := Lib.hid (encL_bytes s)
  have HLE := Lib.hid hle
  generalize encL s = E at *
  generalize encA s = A0 at *
  obtain ⟨step, phase, fresh, vals, mail⟩ := s
  obtain ⟨h1, h2, h3, h4, h5, h6⟩ := hin
  dsimp only at *
  obtain ⟨hvl, hvc, hvc63⟩ := hsv.vlen
  obtain ⟨hml, hmc, hmc63⟩ := hsm.mlen
  have HV := Lib.hid hsv
  have HM := Lib.hid hsm
  have HVL := Lib.hid hvl
  have HML := Lib.hid hml
  have HVI := Lib.hid h5
  have HMI := Lib.hid h6
  rw [← hvl] at h3 HEA
  rw [← hml] at h4 HEL HLB
  have hsrt : decide (srt cfM mail = mail) = true := decide_eq_true hsr
  rw [hsrt] at HMAY
  obtain ⟨b1, B1, z1⟩ := boxed0 w [.int .i64 (step : Int), .int .i64 (phase : Int), .bool fresh, .slice p n c, .slice p' m c'] 51
  have HX1 := Lib.hid B1
  obtain ⟨hx0, hx1, hx2, hx3, hx4⟩ := B1.five
  have HB1 := Lib.hid b1
  clear hsv hsm hvl hml h5 h6 B1 b1 hsr hsrt hs hle
  go_enter Tryd.func19, Tryd.ntmps19
  go_wp2_with fail
  obtain ⟨g1, hg1⟩ : ∃ g1, g1 = w.heap.size := ⟨_, rfl⟩
  have HG1 := Lib.hid hg1
  rw [← hg1] at HX1 hx0 hx1 hx2 hx3 hx4 ⊢
  generalize (w.alloc (.cells #[.int .i64 (step : Int), .int .i64 (phase : Int), .bool fresh, .slice p n c, .slice p' m c'] 51)) = w1 at *
  refine (HMAY.out _ HB1.out).mono ?_; rintro e w2 ⟨rfl, hb2⟩
  have HX2 := Lib.hid (HX1.out.next hb2)
  have HB2 := Lib.hid (HB1.out.trans (hb2.mono HB1.out.size))
  have hg1l := HX2.out.lt
  obtain ⟨b3, B3, z3⟩ := boxed0 w2 [.slice none 0 0] 54
  have HI3 := Lib.hid (show Ink (w2.alloc (.cells #[.slice none 0 0] 54)) (w2.heap.size + 1) w2.heap.size [] from ⟨none, 0, 0, B3, World.ownsRow_nil _ _ _ _⟩)
  have HX3 := Lib.hid (HX2.out.next b3)
  have HB3 := Lib.hid (HB2.out.trans (b3.mono HB2.out.size))
  have hgb2 := HB2.out.size
  clear hx0 hx1 hx2 hx3 hx4 hb2 b3 B3 hg1 z1 HX1 HB1
  obtain ⟨hx0, hx1, hx2, hx3, hx4⟩ := HX3.out.five
  go_upto_if 16 with fail
  obtain ⟨gb, hgb⟩ : ∃ gb, gb = w2.heap.size := ⟨_, rfl⟩
  rw [← hgb] at HI3 z3 hg1l hgb2 ⊢
  clear hgb
  generalize (w2.alloc (.cells #[.slice none 0 0] 54)) = w3 at *
  go_cut [6] (fun s6 wx => s6 = .int .i64 ((b01 fresh : Nat) : Int) ∧ w3 = wx)
  case first =>
    cases fresh
    · go_wp2_with fail
      go_meet
      case rel => exact ⟨rfl, rfl⟩
    · go_wp2_with fail
      go_meet
      case rel => exact ⟨rfl, rfl⟩
  case rest =>
  obtain ⟨rfl, rfl⟩ := hcut
  have hfr := b01_le fresh
  generalize b01 fresh = fr at *
  obtain ⟨b4, -, z4⟩ := boxed0 w3 [.int .i64 (step : Int), .int .i64 (phase : Int), .int .i64 (fr : Int), .int .i64 (n : Int)] 3
  have HB4 := Lib.hid b4
  have HS4 := Lib.hid (sl_newN w3 (nts [step, phase, fr, n]) 3 4 1 (by decide) rfl)
  clear b4
  go_wp2_with fail
  refine (encput_ok gb (gb + 1) 4 4 _ [step, phase, fr, n] [] w3 _ HI3.out (Nat.lt_succ_self _) z3 HB4.out (Nat.le_refl _) HS4.out (by intro x hx; simp at hx; omega) (by simp) (by omega)).mono ?_; rintro e w5 ⟨rfl, hi5, hb5⟩
  rw [List.nil_append, ← HEA.out] at hi5
  have hb5' : Below gb w3 w5 := (HB4.out.mono (by omega)).trans hb5
  have HI5 := Lib.hid hi5
  have HX5 := Lib.hid (HX3.out.later hb5' hg1l)
  have HB5 := Lib.hid (HB3.out.trans (hb5'.mono hgb2))
  have hz5 : gb + 1 ≤ w5.heap.size := Nat.le_trans z3 hb5'.size
  clear hi5 hb5 hb5' hx0 hx1 hx2 hx3 hx4 z4
  obtain ⟨hx0, hx1, hx2, hx3, hx4⟩ := HX5.out.five
  go_wp2_with fail
  clear hx0 hx1 hx2 hx3 hx4
  go_loopg [8, 31] n (fun gk v8 v31 wr => ∃ k : Nat, v31 = .int .i64 (k : Int) ∧ k + gk = n ∧ Hid (Ink wr (gb + 1) gb (A0 ++ pairL (vals.take k))) ∧ Hid (Bx wr g1 [.int .i64 (step : Int), .int .i64 (phase : Int), .bool fresh, .slice p n c, .slice p' m c']) ∧ Hid (Below w.heap.size w wr) ∧ gb + 1 ≤ wr.heap.size)
  case atStart => exact ⟨0, rfl, by omega, by simpa [pairL] using HI5, HX5, HB5, hz5⟩
  case round =>
    clear HI5 HX5 HB5 hz5
    obtain ⟨k, rfl, hgk, HI, HX, HB, hz⟩ := hrel
    have HGK := Lib.hid hgk
    have hk : k ≤ n := by omega
    clear hgk
    by_cases hlt : k < n
    · have hkl : k < vals.length := by have := HVL.out; omega
      obtain ⟨b9, off9, rfl, hs0, hs1⟩ := (HV.out.later HB.out).vals hkl
      have hbd := HVI.out _ (List.getElem_mem hkl)
      have HPS := Lib.hid (pairL_succ hkl)
      have HAC := Lib.hid (show (A0 ++ pairL (vals.take k)).length ≤ 1000000 from by have h1 := pairL_take_le vals k; have h2 := HLB.out; rw [List.length_append]; omega)
      generalize vals[k] = x at hs0 hs1 hbd HPS
      obtain ⟨x1, x2⟩ := x
      dsimp only at hs0 hs1 HPS
      have hx1 : x1 ≤ 4398046511105 := by exact hbd.1
      have hx2 : x2 ≤ 4398046511105 := by exact Nat.le_trans hbd.2 (by omega)
      obtain ⟨b6, B6, z6⟩ := boxed0 wr [.int .i64 ((x1 : Int) - 1), .int .i64 ((x2 : Int) - 1)] 96
      obtain ⟨hy0, hy1, _, _⟩ := B6.two
      have HI6 := Lib.hid (HI.out.keep b6)
      have HB6 := Lib.hid (HB.out.trans (b6.mono HB.out.size))
      have HX6 := Lib.hid (HX.out.next b6)
      have hk0 : (0 : Int) ≤ (k : Int) := by omega
      have hkn : (k : Int) < (n : Int) := by omega
      have hd1 : decide ((k : Int) < (n : Int)) = true := by simp; omega
      have hd2 : decide (k < n) = true := by simp; omega
      have e1 : (x1 : Int) - 1 + 1 = (x1 : Int) := by omega
      have e2 : (x2 : Int) - 1 + 1 = (x2 : Int) := by omega
      have e1w : IntKind.i64.wrap ((x1 : Int) - 1 + 1) = (x1 : Int) := by rw [e1]; exact IntWalk.i64_in _ (by omega)
      have e2w : IntKind.i64.wrap ((x2 : Int) - 1 + 1) = (x2 : Int) := by rw [e2]; exact IntWalk.i64_in _ (by omega)
      clear hlt hbd b6 B6
      go_upto_region 12 with fail
      have hzq : gb + 1 ≤ (wr.alloc (.cells #[.int .i64 ((x1 : Int) - 1), .int .i64 ((x2 : Int) - 1)] 96)).heap.size := by omega
      have HGQ := Lib.hid (show wr.heap.size ≤ (wr.alloc (.cells #[.int .i64 ((x1 : Int) - 1), .int .i64 ((x2 : Int) - 1)] 96)).heap.size by omega)
      generalize (wr.alloc (.cells #[.int .i64 ((x1 : Int) - 1), .int .i64 ((x2 : Int) - 1)] 96)) = wq at *
      obtain ⟨b7, -, z7⟩ := boxed0 wq [.int .i64 (x1 : Int), .int .i64 (x2 : Int)] 3
      have HB7 := Lib.hid b7
      have HS7 := Lib.hid (sl_newN wq (nts [x1, x2]) 3 2 1 (by decide) rfl)
      have HX7 := Lib.hid (HX6.out.next b7)
      clear b7 z6
      go_wp2_with fail
      refine (encput_ok gb (gb + 1) 2 2 _ [x1, x2] _ wq _ HI6.out (Nat.lt_succ_self _) hzq HB7.out (Nat.le_refl _) HS7.out (by intro x hx; simp at hx; omega) HAC.out (by omega)).mono ?_; rintro e w8 ⟨rfl, hi8, hb8⟩
      have HI8 := Lib.hid (show Ink w8 (gb + 1) gb (A0 ++ pairL (vals.take (k + 1))) from by rw [HPS.out, ← List.append_assoc]; exact hi8)
      have hb8' : Below gb wq w8 := (HB7.out.mono (by omega)).trans hb8
      have HX8 := Lib.hid (HX6.out.later hb8' hg1l)
      have HB8 := Lib.hid (HB6.out.trans (hb8'.mono hgb2))
      have hz8 : gb + 1 ≤ w8.heap.size := Nat.le_trans hzq hb8'.size
      clear hi8 hb8 hb8' hy0 hy1 hs0 hs1
      go_wp2_with fail
      go_roundg (n - (k + 1))
      case measure => have := HGK.out; omega
      case rel => exact ⟨k + 1, by go_num, by omega, HI8, HX8, HB8, hz8⟩
    · obtain rfl : n = k := by omega
      have hd1 : decide ((n : Int) < (n : Int)) = false := by simp
      have hd2 : decide (n < n) = false := by simp
      have HIn := Lib.hid (show Ink wr (gb + 1) gb (A0 ++ pairL vals) from by have h := HI.out; rw [List.take_of_length_le (by have := HVL.out; omega)] at h; exact h)
      obtain ⟨hx0, hx1, hx2, hx3, hx4⟩ := HX.out.five
      clear hlt HI
      obtain ⟨w6, hw6⟩ : ∃ w6 : World, w6 = wr := ⟨_, rfl⟩
      rw [← hw6] at HIn HX HB hz hx0 hx1 hx2 hx3 hx4 ⊢
      clear hw6
      obtain ⟨b7, -, z7⟩ := boxed0 w6 [.int .i64 (m : Int)] 3
      have HB7 := Lib.hid b7
      have HS7 := Lib.hid (sl_newN w6 (nts [m]) 3 1 1 (by decide) rfl)
      clear b7
      go_wp2_with fail
      refine (encput_ok gb (gb + 1) 1 1 _ [m] _ w6 _ HIn.out (Nat.lt_succ_self _) hz HB7.out (Nat.le_refl _) HS7.out (by intro x hx; simp at hx; omega) (by have := HLB.out; rw [List.length_append]; omega) (by omega)).mono ?_; rintro e w8 ⟨rfl, hi8, hb8⟩
      have hb8' : Below gb w6 w8 := (HB7.out.mono (by omega)).trans hb8
      obtain ⟨A2, hA2⟩ : ∃ A2, A2 = A0 ++ pairL vals ++ putsN [m] := ⟨_, rfl⟩
      have HA2 := Lib.hid hA2
      rw [← hA2] at hi8
      have HI9 := Lib.hid hi8
      have HX9 := Lib.hid (HX.out.later hb8' hg1l)
      have HB9 := Lib.hid (HB.out.trans (hb8'.mono hgb2))
      have hz9 : gb + 1 ≤ w8.heap.size := Nat.le_trans hz hb8'.size
      clear hi8 hb8 hb8' hA2 hx0 hx1 hx2 hx3 hx4 HIn HX HB hz z7
      obtain ⟨hx0, hx1, hx2, hx3, hx4⟩ := HX9.out.five
      go_wp2_with fail
      clear hx0 hx1 hx2 hx3 hx4
      go_loopg [10, 54] m (fun gk v8 v31 wr => ∃ k : Nat, v31 = .int .i64 (k : Int) ∧ k + gk = m ∧ Hid (Ink wr (gb + 1) gb (A2 ++ pairL (mail.take k))) ∧ Hid (Bx wr g1 [.int .i64 (step : Int), .int .i64 (phase : Int), .bool fresh, .slice p n c, .slice p' m c']) ∧ Hid (Below w.heap.size w wr) ∧ gb + 1 ≤ wr.heap.size)
      case atStart => exact ⟨0, rfl, by omega, by simpa [pairL] using HI9, HX9, HB9, hz9⟩
      case round =>
        clear HI9 HX9 HB9 hz9
        obtain ⟨k, rfl, hgk, HI, HX, HB, hz⟩ := hrel
        have HGK := Lib.hid hgk
        have hk : k ≤ m := by omega
        clear hgk
        by_cases hlt : k < m
        · have hkl : k < mail.length := by have := HML.out; omega
          obtain ⟨b9, off9, rfl, hs0, hs1⟩ := (HM.out.later HB.out).mail hkl
          have hbd := HMI.out _ (List.getElem_mem hkl)
          have HPS := Lib.hid (pairL_succ hkl)
          have HAC := Lib.hid (show (A2 ++ pairL (mail.take k)).length ≤ 1000000 from by have h1 := pairL_take_le mail k; have h2 := HLB.out; rw [List.length_append]; rw [HA2.out]; simp only [List.length_append]; omega)
          generalize mail[k] = x at hs0 hs1 hbd HPS
          obtain ⟨x1, x2⟩ := x
          dsimp only at hs0 hs1 HPS
          have hx1 : x1 ≤ 4398046511105 := by have h9 := hbd.1; dsimp only at h9; omega
          have hx2 : x2 ≤ 4398046511105 := by exact Nat.le_trans hbd.2 (by omega)
          obtain ⟨b6, B6, z6⟩ := boxed0 wr [.int .i64 (x1 : Int), .int .i64 (x2 : Int)] 103
          obtain ⟨hy0, hy1, _, _⟩ := B6.two
          have HI6 := Lib.hid (HI.out.keep b6)
          have HB6 := Lib.hid (HB.out.trans (b6.mono HB.out.size))
          have HX6 := Lib.hid (HX.out.next b6)
          have hk0 : (0 : Int) ≤ (k : Int) := by omega
          have hkn : (k : Int) < (m : Int) := by omega
          have hd1 : decide ((k : Int) < (m : Int)) = true := by simp; omega
          have hd2 : decide (k < m) = true := by simp; omega
          clear hlt hbd b6 B6
          go_upto_region 18 with fail
          have hzq : gb + 1 ≤ (wr.alloc (.cells #[.int .i64 (x1 : Int), .int .i64 (x2 : Int)] 103)).heap.size := by omega
          have HGQ := Lib.hid (show wr.heap.size ≤ (wr.alloc (.cells #[.int .i64 (x1 : Int), .int .i64 (x2 : Int)] 103)).heap.size by omega)
          generalize (wr.alloc (.cells #[.int .i64 (x1 : Int), .int .i64 (x2 : Int)] 103)) = wq at *
          obtain ⟨b7, -, z7⟩ := boxed0 wq [.int .i64 (x1 : Int), .int .i64 (x2 : Int)] 3
          have HB7 := Lib.hid b7
          have HS7 := Lib.hid (sl_newN wq (nts [x1, x2]) 3 2 1 (by decide) rfl)
          have HX7 := Lib.hid (HX6.out.next b7)
          clear b7 z6
          go_wp2_with fail
          refine (encput_ok gb (gb + 1) 2 2 _ [x1, x2] _ wq _ HI6.out (Nat.lt_succ_self _) hzq HB7.out (Nat.le_refl _) HS7.out (by intro x hx; simp at hx; omega) HAC.out (by omega)).mono ?_; rintro e w8 ⟨rfl, hi8, hb8⟩
          have HI8 := Lib.hid (show Ink w8 (gb + 1) gb (A2 ++ pairL (mail.take (k + 1))) from by rw [HPS.out, ← List.append_assoc]; exact hi8)
          have hb8' : Below gb wq w8 := (HB7.out.mono (by omega)).trans hb8
          have HX8 := Lib.hid (HX6.out.later hb8' hg1l)
          have HB8 := Lib.hid (HB6.out.trans (hb8'.mono hgb2))
          have hz8 : gb + 1 ≤ w8.heap.size := Nat.le_trans hzq hb8'.size
          clear hi8 hb8 hb8' hy0 hy1 hs0 hs1
          go_wp2_with fail
          go_roundg (m - (k + 1))
          case measure => have := HGK.out; omega
          case rel => exact ⟨k + 1, by go_num, by omega, HI8, HX8, HB8, hz8⟩
        · obtain rfl : m = k := by omega
          have hd1 : decide ((m : Int) < (m : Int)) = false := by simp
          have hd2 : decide (m < m) = false := by simp
          have HIn := Lib.hid (show Ink wr (gb + 1) gb (A2 ++ pairL mail) from by have h := HI.out; rw [List.take_of_length_le (by have := HML.out; omega)] at h; exact h)
          obtain ⟨hx0, hx1, hx2, hx3, hx4⟩ := HX.out.five
          clear hlt HI
          have HE := Lib.hid (show E = A2 ++ pairL mail from by rw [HEL.out, HA2.out])
          rw [← HE.out] at HIn
          obtain ⟨pb, nb, cb, hbx, hob⟩ := HIn.out
          have hbb := hbx.one
          have HIB := Lib.hid (IsB.of_own hob HAB.out)
          have hnb : nb ≤ 20000 := by have h := hob.1; rw [bys_len] at h; have := HLE.out; omega
          clear hbx hob
          go_wp2_with fail
          refine (wrap_any pb cb nb E _ HIB.out hnb).mono ?_; rintro e w10 ⟨p10, c10, rfl, ho10, hb10⟩
          go_wp2_with fail
          go_ret2
          exact ⟨p10, c10, rfl, own_mono ho10 HB.out.size, HB.out.trans (hb10.mono HB.out.size)⟩
end Go.Proofs.YtmdbcknlipahgaaDoor
