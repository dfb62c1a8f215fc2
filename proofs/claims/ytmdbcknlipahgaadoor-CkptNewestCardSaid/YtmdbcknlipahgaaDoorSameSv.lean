/- The walks of pacelinekeep.sameMail at any mail, and of sameSaved. -/
import Derived.Test.YtmdbcknlipahgaaDoorCMay
import Derived.Deep.QuietTactic
import Derived.BigQuiet
namespace Go.Proofs.YtmdbcknlipahgaaDoor
open Go.RowKit Go.Sort Go.Proofs
/-- a call that answers whether P holds -/
def SaysB (P : Prop) (w : World) (e : Ending) (w' : World) : Prop := ∃ r : Bool, e = .returned (.bool r) ∧ (r = true ↔ P) ∧ Below w.heap.size w w'
theorem SaysB.yes {P : Prop} {w w' : World} (h : P) (hb : Below w.heap.size w w') : SaysB P w (.returned (.bool true)) w' := ⟨true, rfl, by simp [h], hb⟩
theorem SaysB.no {P : Prop} {w w' : World} (h : ¬ P) (hb : Below w.heap.size w w') : SaysB P w (.returned (.bool false)) w' := ⟨false, rfl, by simp [h], hb⟩
set_option maxHeartbeats 4000000 in
set_option maxRecDepth 100000 in
theorem sameMail_says (p q : Option Addr) (c d n m : Nat) (a b : List (Nat × Nat)) (w : World) (ha : Sl w 2 (.slice p n c) n (mcs a)) (hb : Sl w 2 (.slice q m d) m (mcs b)) :
    Calls Tryd.prog 53 #[.slice p n c, .slice q m d] w (SaysB (a = b) w) := by
  obtain ⟨hln, hnc, hc63⟩ := ha.mlen
  obtain ⟨hrn, hnd, hd63⟩ := hb.mlen
  have HA := Lib.hid ha
  have HB := Lib.hid hb
  by_cases hmn : m = n
  · subst hmn
    have HLN := Lib.hid hln
    have HRN := Lib.hid hrn
    clear ha hb hln hrn
    have hne : ((m : Int) != (m : Int)) = false := by simp
    go_enter Tryd.func53, Tryd.ntmps53
    go_wp2_with fail
    go_loopw [5] (fun i wr => ∃ k : Nat, i = .int .i64 (k : Int) ∧ k ≤ m ∧ Hid (a.take k = b.take k) ∧ Below w.heap.size w wr ∧ w.heap.size ≤ wr.heap.size) (fun i _ => m - (intOf i).toNat)
    case atStart => exact ⟨0, rfl, by omega, Lib.hid rfl, Below.refl _ _, Nat.le_refl _⟩
    case round =>
      obtain ⟨k, rfl, hk, HT, hbl, hsz⟩ := hrel
      by_cases hlt : k < m
      · have hka : k < a.length := by have := HLN.out; omega
        have hkb : k < b.length := by have := HRN.out; omega
        obtain ⟨b2, off2, rfl, hs0, hs1⟩ := (HA.out.later hbl).mail hka
        obtain ⟨b3, off3, rfl, ht0, ht1⟩ := (HB.out.later hbl).mail hkb
        have HE := Lib.hid (show a[k] ≠ b[k] → ¬ a = b from fun h e => h (by subst e; rfl))
        have HS := Lib.hid (show a[k] = b[k] → a.take (k + 1) = b.take (k + 1) from fun h => by rw [List.take_succ_eq_append_getElem hka, List.take_succ_eq_append_getElem hkb, HT.out, h])
        generalize a[k] = x at hs0 hs1 HE HS
        generalize b[k] = y at ht0 ht1 HE HS
        obtain ⟨x1, x2⟩ := x
        obtain ⟨y1, y2⟩ := y
        dsimp only at hs0 hs1 ht0 ht1
        have hk0 : (0 : Int) ≤ (k : Int) := by omega
        have hkm : (k : Int) < (m : Int) := by omega
        by_cases h1 : x1 = y1
        · by_cases h2 : x2 = y2
          · subst h1 h2
            have HS' := Lib.hid (HS.out rfl)
            go_wp2_with fail
            go_quiet (fail)
            go_wp2_with fail
            go_roundw
            case rel => exact ⟨k + 1, by go_num, by omega, HS', below_drewN hbl _, hsz⟩
            case measure => simp [intOf]; omega
          · have he : ((x2 : Int) == (y2 : Int)) = false := by simp; omega
            have HN := Lib.hid (HE.out (fun e => by cases e; exact h2 rfl))
            subst h1
            go_wp2_with fail
            go_quiet (fail)
            go_wp2_with fail
            go_ret
            exact SaysB.no HN.out (below_drewN hbl _)
        · have he : ((x1 : Int) == (y1 : Int)) = false := by simp; omega
          have HN := Lib.hid (HE.out (fun e => by cases e; exact h1 rfl))
          go_wp2_with fail
          go_quiet (fail)
          go_wp2_with fail
          go_ret
          exact SaysB.no HN.out (below_drewN hbl _)
      · have HN := Lib.hid (show a = b by have h := HT.out; rw [List.take_of_length_le (by have := HLN.out; omega), List.take_of_length_le (by have := HRN.out; omega)] at h; exact h)
        go_wp2_with fail
        go_ret
        exact SaysB.yes HN.out hbl
  · have hne : ((n : Int) != (m : Int)) = true := by simp; omega
    have HN := Lib.hid (show ¬ a = b from fun e => hmn (by rw [hln, hrn, e]))
    clear ha hb hln hrn
    go_enter Tryd.func53, Tryd.ntmps53
    go_wp2_with fail
    go_ret
    exact SaysB.no HN.out (Below.refl _ _)
theorem sv_ext {s t : Sv} (h1 : s.step = t.step) (h2 : s.phase = t.phase) (h3 : s.fresh = t.fresh) (h4 : s.vals = t.vals) (h5 : s.mail = t.mail) : s = t := by
  cases s; cases t; cases h1; cases h2; cases h3; cases h4; cases h5; rfl
set_option maxHeartbeats 8000000 in
set_option maxRecDepth 100000 in
theorem sameSaved_says (v u : Value) (s t : Sv) (w : World) (hv : IsSv w v s) (hu : IsSv w u t) :
    Calls Tryd.prog 25 #[v, u] w (SaysB (s = t) w) := by
  obtain ⟨p, p', n, c, m, c', rfl, hsv, hsm⟩ := hv
  obtain ⟨q, q', n2, d, m2, d', rfl, hsv2, hsm2⟩ := hu
  obtain ⟨hvl, hvc, hvc63⟩ := hsv.vlen
  obtain ⟨hvl2, hvc2, hvc632⟩ := hsv2.vlen
  have HV := Lib.hid hsv
  have HV2 := Lib.hid hsv2
  have HVL := Lib.hid hvl
  have HVL2 := Lib.hid hvl2
  have HSM := Lib.hid (fun (W : World) (hW : Below w.heap.size w W) => sameMail_says p' q' c' d' m m2 s.mail t.mail W (hsm.later hW) (hsm2.later hW))
  have HEX := Lib.hid (@sv_ext s t)
  have HX1 := Lib.hid (show ¬ s.step = t.step → ¬ s = t from fun h e => h (by rw [e]))
  have HX2 := Lib.hid (show ¬ s.phase = t.phase → ¬ s = t from fun h e => h (by rw [e]))
  have HX3 := Lib.hid (show ¬ s.fresh = t.fresh → ¬ s = t from fun h e => h (by rw [e]))
  have HX4 := Lib.hid (show ¬ s.vals = t.vals → ¬ s = t from fun h e => h (by rw [e]))
  have HX5 := Lib.hid (show ¬ s.mail = t.mail → ¬ s = t from fun h e => h (by rw [e]))
  clear hsv hsm hsv2 hsm2 hvl hvl2
  generalize (s = t) = P at HEX HX1 HX2 HX3 HX4 HX5 ⊢
  obtain ⟨st, ph, fr, vals, mail⟩ := s
  obtain ⟨st2, ph2, fr2, vals2, mail2⟩ := t
  dsimp only at *
  obtain ⟨b1, B1, z1⟩ := boxed0 w [.int .i64 (st : Int), .int .i64 (ph : Int), .bool fr, .slice p n c, .slice p' m c'] 51
  have hs1 : (w.alloc (.cells #[.int .i64 (st : Int), .int .i64 (ph : Int), .bool fr, .slice p n c, .slice p' m c'] 51)).heap.size = w.heap.size + 1 := by simp
  obtain ⟨b2, B2, z2⟩ := boxed0 (w.alloc (.cells #[.int .i64 (st : Int), .int .i64 (ph : Int), .bool fr, .slice p n c, .slice p' m c'] 51)) [.int .i64 (st2 : Int), .int .i64 (ph2 : Int), .bool fr2, .slice q n2 d, .slice q' m2 d'] 51
  have X1 := B1.next b2
  rw [hs1] at B2
  have HBW := Lib.hid (b1.trans (b2.mono (by omega)))
  have HSZ := Lib.hid (show (w.alloc (.cells #[.int .i64 (st : Int), .int .i64 (ph : Int), .bool fr, .slice p n c, .slice p' m c'] 51)).heap.size = w.heap.size + 1 by simp)
  obtain ⟨hx0, hx1, hx2, hx3, hx4⟩ := X1.five
  obtain ⟨hy0, hy1, hy2, hy3, hy4⟩ := B2.five
  have HX := Lib.hid X1
  have HY := Lib.hid B2
  clear b1 b2 B1 B2 X1 hs1 z1 z2
  go_enter Tryd.func25, Tryd.ntmps25
  go_upto_region 1 with fail
  clear HSZ
  generalize ((w.alloc (.cells #[.int .i64 (st : Int), .int .i64 (ph : Int), .bool fr, .slice p n c, .slice p' m c'] 51)).alloc (.cells #[.int .i64 (st2 : Int), .int .i64 (ph2 : Int), .bool fr2, .slice q n2 d, .slice q' m2 d'] 51)) = w1 at *
  by_cases e1 : st = st2
  case neg =>
    have he : ((st : Int) != (st2 : Int)) = true := by simp; omega
    have HN := Lib.hid (HX1.out e1)
    go_wp2_with fail
    go_ret
    exact SaysB.no HN.out HBW.out
  subst e1
  by_cases e2 : ph = ph2
  case neg =>
    have he : ((ph : Int) != (ph2 : Int)) = true := by simp; omega
    have HN := Lib.hid (HX2.out e2)
    go_wp2_with fail
    go_ret
    exact SaysB.no HN.out HBW.out
  subst e2
  by_cases e3 : fr = fr2
  case neg =>
    have he : (fr != fr2) = true := by simp; exact e3
    have HN := Lib.hid (HX3.out e3)
    go_wp2_with fail
    go_ret
    exact SaysB.no HN.out HBW.out
  subst e3
  by_cases e4 : n = n2
  case neg =>
    have he : ((n : Int) != (n2 : Int)) = true := by simp; omega
    have HN := Lib.hid (HX4.out (fun e => e4 (by rw [HVL.out, HVL2.out, e])))
    go_wp2_with fail
    go_ret
    exact SaysB.no HN.out HBW.out
  subst e4
  clear HX1 HX2 HX3
  have he0 : (fr != fr) = false := by simp
  go_wp2_with fail
  obtain ⟨g, hg⟩ : ∃ g, g = w.heap.size := ⟨_, rfl⟩
  have HG := Lib.hid hg
  rw [← hg] at HX HY hx0 hx1 hx2 hx3 hx4 hy0 hy1 hy2 hy3 hy4 ⊢
  clear hg
  go_loopg [5] n (fun gk v5 wr => ∃ k : Nat, v5 = .int .i64 (k : Int) ∧ k + gk = n ∧ Hid (vals.take k = vals2.take k) ∧ Below w.heap.size w wr ∧ Hid (Bx wr g [.int .i64 (st : Int), .int .i64 (ph : Int), .bool fr, .slice p n c, .slice p' m c']) ∧ Hid (Bx wr (g + 1) [.int .i64 (st : Int), .int .i64 (ph : Int), .bool fr, .slice q n d, .slice q' m2 d']))
  case atStart => exact ⟨0, rfl, by omega, Lib.hid rfl, HBW.out, HX, HY⟩
  case round =>
    clear hx0 hx1 hx2 hx3 hx4 hy0 hy1 hy2 hy3 hy4 HX HY
    obtain ⟨k, rfl, hgk, HT, hb, HX, HY⟩ := hrel
    have HGK := Lib.hid hgk
    have hk : k ≤ n := by omega
    clear hgk
    obtain ⟨hx0, hx1, hx2, hx3, hx4⟩ := HX.out.five
    obtain ⟨hy0, hy1, hy2, hy3, hy4⟩ := HY.out.five
    by_cases hlt : k < n
    · have hkl : k < vals.length := by have := HVL.out; omega
      have hkr : k < vals2.length := by have := HVL2.out; omega
      obtain ⟨b2, off2, rfl, hs0, hs1⟩ := (HV.out.later hb).vals hkl
      obtain ⟨b3, off3, rfl, ht0, ht1⟩ := (HV2.out.later hb).vals hkr
      have HE := Lib.hid (show vals[k] ≠ vals2[k] → ¬ P from fun h => HX4.out (fun e => h (by subst e; rfl)))
      have HS := Lib.hid (show vals[k] = vals2[k] → vals.take (k + 1) = vals2.take (k + 1) from fun h => by rw [List.take_succ_eq_append_getElem hkl, List.take_succ_eq_append_getElem hkr, HT.out, h])
      generalize vals[k] = x at hs0 hs1 HE HS
      generalize vals2[k] = y at ht0 ht1 HE HS
      obtain ⟨x1, x2⟩ := x
      obtain ⟨y1, y2⟩ := y
      dsimp only at hs0 hs1 ht0 ht1
      have hk0 : (0 : Int) ≤ (k : Int) := by omega
      have hkn : (k : Int) < (n : Int) := by omega
      have hd1 : decide ((k : Int) < (n : Int)) = true := by simp; omega
      have hd2 : decide (k < n) = true := by simp; omega
      obtain ⟨X1, hX1⟩ : ∃ X1, X1 = (x1 : Int) - 1 := ⟨_, rfl⟩
      obtain ⟨X2, hX2⟩ : ∃ X2, X2 = (x2 : Int) - 1 := ⟨_, rfl⟩
      obtain ⟨Y1, hY1⟩ : ∃ Y1, Y1 = (y1 : Int) - 1 := ⟨_, rfl⟩
      obtain ⟨Y2, hY2⟩ : ∃ Y2, Y2 = (y2 : Int) - 1 := ⟨_, rfl⟩
      rw [← hX1] at hs0
      rw [← hX2] at hs1
      rw [← hY1] at ht0
      rw [← hY2] at ht1
      clear hlt
      by_cases h1 : x1 = y1
      · by_cases h2 : x2 = y2
        · have HS' := Lib.hid (HS.out (by rw [h1, h2]))
          obtain rfl : X1 = Y1 := by omega
          obtain rfl : X2 = Y2 := by omega
          clear hX1 hX2 hY1 hY2 h1 h2
          go_wp2_with fail
          go_quiet (fail)
          go_wp2_with fail
          go_roundg (n - (k + 1))
          case measure => have := HGK.out; omega
          case rel => exact ⟨k + 1, by go_num, by omega, HS', below_drewN hb _, HX, HY⟩
        · have he : (X2 == Y2) = false := by simp; omega
          have HN := Lib.hid (HE.out (fun e => by cases e; exact h2 rfl))
          obtain rfl : X1 = Y1 := by omega
          clear hX1 hX2 hY1 hY2 h1 h2
          go_wp2_with fail
          go_quiet (fail)
          go_wp2_with fail
          go_ret
          exact SaysB.no HN.out (below_drewN hb _)
      · have he : (X1 == Y1) = false := by simp; omega
        have HN := Lib.hid (HE.out (fun e => by cases e; exact h1 rfl))
        clear hX1 hX2 hY1 hY2 h1
        go_wp2_with fail
        go_quiet (fail)
        go_wp2_with fail
        go_ret
        exact SaysB.no HN.out (below_drewN hb _)
    · obtain rfl : n = k := by omega
      have hd1 : decide ((n : Int) < (n : Int)) = false := by simp
      have hd2 : decide (n < n) = false := by simp
      have hv := Lib.hid (show vals = vals2 by have h := HT.out; rw [List.take_of_length_le (by have := HVL.out; omega), List.take_of_length_le (by have := HVL2.out; omega)] at h; exact h)
      have HQ := Lib.hid (HSM.out wr hb)
      clear hlt
      go_wp2_with fail
      refine HQ.out.mono ?_; rintro e w2 ⟨r, rfl, hr, hb2⟩
      have HR := Lib.hid hr
      have HB2 := Lib.hid (hb.trans (hb2.mono hb.size))
      clear hr hb hb2
      go_wp2_with fail
      go_ret
      exact ⟨r, rfl, ⟨fun h => HEX.out (by trivial) (by trivial) (by trivial) hv.out (HR.out.1 h), fun h => HR.out.2 (Classical.byContradiction fun hne => HX5.out hne h)⟩, HB2.out⟩
end Go.Proofs.YtmdbcknlipahgaaDoor
