/- The walks of slices.Equal at any mail, and of ckpt.may at numbers within their bounds. -/
import Derived.Test.YtmdbcknlipahgaaDoorMailU
import Derived.Test.YtmdbcknlipahgaaDoorBoxed
import Derived.Test.YtmdbcknlipahgaaDoorPQueue
import Derived.Deep.LoopGhost
import Derived.Deep.QuietTactic
import Derived.BigQuiet
import Derived.Test.YtmdbcknlipahgaaDoorEncPut
import Derived.Test.YtmdbcknlipahgaaDoorPCkpt
import Derived.IntWalk
namespace Go.Proofs.YtmdbcknlipahgaaDoor
open Go.RowKit Go.Sort Go.Proofs
set_option maxHeartbeats 4000000 in
set_option maxRecDepth 100000 in
theorem qequal_dec (n c d : Nat) (p q : Option Addr) (l r : List (Nat × Nat)) (w : World) (h : Sl w 2 (.slice p n c) n (mcs l)) (h2 : Sl w 2 (.slice q n d) n (mcs r)) :
    Calls Tryd.prog 62 #[.slice p n c, .slice q n d] w fun e w' => e = .returned (.bool (decide (l = r))) ∧ Below w.heap.size w w' := by
  obtain ⟨hln, hnc, hc63⟩ := h.mlen
  obtain ⟨hrn, hnd, hd63⟩ := h2.mlen
  have HLN := Lib.hid hln
  have HRN := Lib.hid hrn
  have HL := Lib.hid h
  have HL2 := Lib.hid h2
  clear h h2 hln hrn
  go_enter Tryd.func62, Tryd.ntmps62
  go_wp2_with fail
  go_loopg [4, 5, 13] n (fun gk v4 v5 v13 wr => ∃ k : Nat, v13 = .int .i64 (k : Int) ∧ k + gk = n ∧ Hid (l.take k = r.take k) ∧ Below w.heap.size w wr)
  case atStart => exact ⟨0, rfl, by omega, Lib.hid rfl, Below.refl _ _⟩
  case round =>
    obtain ⟨k, rfl, hgk, HT, hb⟩ := hrel
    have HGK := Lib.hid hgk
    have hk : k ≤ n := by omega
    clear hgk
    by_cases hlt : k < n
    · have hkl : k < l.length := by have := HLN.out; omega
      have hkr : k < r.length := by have := HRN.out; omega
      obtain ⟨b2, off2, rfl, hs0, hs1⟩ := (HL.out.later hb).mail hkl
      obtain ⟨b3, off3, rfl, ht0, ht1⟩ := (HL2.out.later hb).mail hkr
      have HE := Lib.hid (show l[k] ≠ r[k] → l ≠ r from fun h e => h (by subst e; rfl))
      have HS := Lib.hid (show l[k] = r[k] → l.take (k + 1) = r.take (k + 1) from fun h => by rw [List.take_succ_eq_append_getElem hkl, List.take_succ_eq_append_getElem hkr, HT.out, h])
      generalize l[k] = x at hs0 hs1 HE HS
      generalize r[k] = y at ht0 ht1 HE HS
      obtain ⟨x1, x2⟩ := x
      obtain ⟨y1, y2⟩ := y
      dsimp only at hs0 hs1 ht0 ht1
      have hk0 : (0 : Int) ≤ (k : Int) := by omega
      have hkn : (k : Int) < (n : Int) := by omega
      have hd1 : decide ((k : Int) < (n : Int)) = true := by simp; omega
      have hd2 : decide (k < n) = true := by simp; omega
      clear hlt
      by_cases h1 : x1 = y1
      · by_cases h2 : x2 = y2
        · subst h1 h2
          have HS' := Lib.hid (HS.out rfl)
          go_wp2_with fail
          go_quiet (fail)
          go_wp2_with fail
          go_roundg (n - (k + 1))
          case measure => have := HGK.out; omega
          case rel => exact ⟨k + 1, by go_num, by omega, HS', below_drewN hb _⟩
        · have he : ((x2 : Int) == (y2 : Int)) = false := by simp; omega
          have HN := Lib.hid (decide_eq_false (HE.out (fun e => by cases e; exact h2 rfl)))
          subst h1
          go_wp2_with fail
          go_quiet (fail)
          go_wp2_with fail
          go_ret
          exact ⟨by rw [HN.out]; rfl, below_drewN hb _⟩
      · have he : ((x1 : Int) == (y1 : Int)) = false := by simp; omega
        have HN := Lib.hid (decide_eq_false (HE.out (fun e => by cases e; exact h1 rfl)))
        go_wp2_with fail
        go_quiet (fail)
        go_wp2_with fail
        go_ret
        exact ⟨by rw [HN.out]; rfl, below_drewN hb _⟩
    · have hd1 : decide ((k : Int) < (n : Int)) = false := by simp; omega
      have hd2 : decide (k < n) = false := by simp; omega
      have HN := Lib.hid (show decide (l = r) = true from decide_eq_true (by have h := HT.out; rw [List.take_of_length_le (by have := HLN.out; omega), List.take_of_length_le (by have := HRN.out; omega)] at h; exact h))
      go_wp2_with fail
      go_ret
      exact ⟨by rw [HN.out]; rfl, hb⟩
/-- values as cells -/
def vcs (l : List (Nat × Nat)) : List Value := l.flatMap fun m => [Value.int .i64 ((m.1 : Int) - 1), Value.int .i64 ((m.2 : Int) - 1)]
theorem vcs_snoc (l : List (Nat × Nat)) (m : Nat × Nat) : vcs (l ++ [m]) = vcs l ++ [Value.int .i64 ((m.1 : Int) - 1), Value.int .i64 ((m.2 : Int) - 1)] := by simp [vcs]
theorem vcs_len : ∀ (l : List (Nat × Nat)), (vcs l).length = l.length * 2
  | [] => rfl
  | m :: l => by
    have := vcs_len l
    have e : vcs (m :: l) = [Value.int .i64 ((m.1 : Int) - 1), Value.int .i64 ((m.2 : Int) - 1)] ++ vcs l := rfl
    rw [e, List.length_append, this, List.length_cons]; simp only [List.length_cons, List.length_nil]; omega
theorem vcs_at : ∀ {l : List (Nat × Nat)} {i : Nat} (h : i < l.length), (vcs l)[i * 2]? = some (.int .i64 ((l[i].1 : Int) - 1)) ∧ (vcs l)[i * 2 + 1]? = some (.int .i64 ((l[i].2 : Int) - 1))
  | m :: l, 0, _ => ⟨rfl, rfl⟩
  | m :: l, i + 1, h => by
    have ih := vcs_at (l := l) (i := i) (by simpa using h)
    have e : vcs (m :: l) = [Value.int .i64 ((m.1 : Int) - 1), Value.int .i64 ((m.2 : Int) - 1)] ++ vcs l := rfl
    have e1 : (i + 1) * 2 = i * 2 + 2 := by omega
    rw [e, e1, List.getElem?_append_right (by simp), show i * 2 + 2 + 1 = (i * 2 + 1) + 2 by omega, List.getElem?_append_right (by simp)]
    simpa using ih
theorem Sl.vals {w : World} {p : Option Addr} {c n : Nat} {l : List (Nat × Nat)} (h : Sl w 2 (.slice p n c) n (vcs l)) {i : Nat} (hi : i < l.length) : ∃ b off, p = some ⟨b, off, none⟩ ∧ w.cell? ⟨b, off + i * 2, none⟩ = some (.int .i64 ((l[i].1 : Int) - 1)) ∧ w.cell? ⟨b, off + i * 2 + 1, none⟩ = some (.int .i64 ((l[i].2 : Int) - 1)) := by
  obtain ⟨h1, h2⟩ := vcs_at hi
  obtain ⟨b, off, rfl, hc1⟩ := h.get h1
  obtain ⟨b', off', he, hc2⟩ := h.get h2
  cases he
  rw [← Nat.add_assoc] at hc2
  exact ⟨b, off, rfl, hc1, hc2⟩
theorem Sl.vlen {w : World} {p : Option Addr} {c n : Nat} {l : List (Nat × Nat)} (h : Sl w 2 (.slice p n c) n (vcs l)) : n = l.length ∧ n ≤ c ∧ c ≤ 9223372036854775807 := by
  obtain ⟨p', c', hp, h1, h2, h3, _⟩ := h
  cases hp
  rw [vcs_len] at h3
  exact ⟨by omega, h1, by unfold maxLen at h2; omega⟩
/-- what is saved, as a value that may be read -/
def IsSv (w : World) (v : Value) (s : Sv) : Prop :=
  ∃ (p p' : Option Addr) (n c m c' : Nat), v = .agg #[.int .i64 (s.step : Int), .int .i64 (s.phase : Int), .bool s.fresh, .slice p n c, .slice p' m c'] ∧ Sl w 2 (.slice p n c) n (vcs s.vals) ∧ Sl w 2 (.slice p' m c') m (mcs s.mail)
theorem IsSv.later {w w' : World} {v : Value} {s : Sv} (h : IsSv w v s) (hb : Below w.heap.size w w') : IsSv w' v s := by
  obtain ⟨p, p', n, c, m, c', rfl, h1, h2⟩ := h
  exact ⟨p, p', n, c, m, c', rfl, h1.later hb, h2.later hb⟩
set_option maxHeartbeats 8000000 in
set_option maxRecDepth 100000 in
theorem cmay_ok (v : Value) (s : Sv) (w : World) (hv : IsSv w v s) (hs : SvIn s) :
    Calls Tryd.prog 40 #[v] w fun e w' => e = .returned (.bool (decide (srt cfM s.mail = s.mail))) ∧ Below w.heap.size w w' := by
  obtain ⟨p, p', n, c, m, c', rfl, hsv, hsm⟩ := hv
  obtain ⟨step, phase, fresh, vals, mail⟩ := s
  obtain ⟨h1, h2, h3, h4, h5, h6⟩ := hs
  dsimp only at *
  obtain ⟨hvl, hvc, hvc63⟩ := hsv.vlen
  obtain ⟨hml, hmc, hmc63⟩ := hsm.mlen
  have HV := Lib.hid hsv
  have HM := Lib.hid hsm
  have HVL := Lib.hid hvl
  have HML := Lib.hid hml
  have HVI := Lib.hid h5
  have HMI := Lib.hid h6
  rw [← hvl] at h3
  rw [← hml] at h4
  have HSO := Lib.hid (fun (W : World) (hW : Below w.heap.size w W) => sortM_ok m c' p' mail W (hsm.later hW) h4)
  have HEQ := Lib.hid (fun (q : Option Addr) (d : Nat) (W : World) (hq : Sl W 2 (.slice q m d) m (mcs (srt cfM mail))) (hW : Below w.heap.size w W) => qequal_dec m d c' q p' (srt cfM mail) mail W hq (hsm.later hW))
  generalize srt cfM mail = sm at *
  obtain ⟨b1, B1, z1⟩ := boxed0 w [.int .i64 (step : Int), .int .i64 (phase : Int), .bool fresh, .slice p n c, .slice p' m c'] 51
  have HX := Lib.hid B1
  obtain ⟨hx0, hx1, hx2, hx3, hx4⟩ := B1.five
  have hd1 : decide ((100000 : Int) < (step : Int)) = false := by simp; omega
  have hd2 : decide (100000 < step) = false := by simp; omega
  have hd3 : decide ((200 : Int) < (n : Int)) = false := by simp; omega
  have hd4 : decide (200 < n) = false := by simp; omega
  have hd5 : decide ((5000 : Int) < (m : Int)) = false := by simp; omega
  have hd6 : decide (5000 < m) = false := by simp; omega
  have hst : (0 : Int) ≤ (step : Int) := by omega
  have HB1 := Lib.hid b1
  clear hsv hsm hvl hml h5 h6 B1 b1
  go_enter Tryd.func40, Tryd.ntmps40
  go_upto_region 1 with fail
  obtain ⟨g, hg⟩ : ∃ g, g = w.heap.size := ⟨_, rfl⟩
  rw [← hg] at HX hx0 hx1 hx2 hx3 hx4 ⊢
  have HG := Lib.hid hg
  generalize (w.alloc (.cells #[.int .i64 (step : Int), .int .i64 (phase : Int), .bool fresh, .slice p n c, .slice p' m c'] 51)) = w1 at *
  clear hg z1
  go_cut [38] (fun s38 wx => s38 = .bool false ∧ w1 = wx)
  case first =>
    rcases Nat.le_one_iff_eq_zero_or_eq_one.1 h2 with rfl | rfl
    · go_wp2_with fail
      go_meet
      case rel => exact ⟨rfl, rfl⟩
    · go_wp2_with fail
      go_meet
      case rel => exact ⟨rfl, rfl⟩
  case rest =>
  obtain ⟨rfl, rfl⟩ := hcut
  clear hd1 hd2 hd3 hd4 hd5 hd6 hst h1 h2
  go_wp2_with fail
  go_loopg [2, 4, 42] n (fun gk v2 v4 v42 wr => ∃ k : Nat, v42 = .int .i64 (k : Int) ∧ k + gk = n ∧ Below w.heap.size w wr ∧ Hid (Bx wr g [.int .i64 (step : Int), .int .i64 (phase : Int), .bool fresh, .slice p n c, .slice p' m c']))
  case atStart => exact ⟨0, rfl, by omega, HB1.out, HX⟩
  case round =>
    clear hx0 hx1 hx2 hx3 hx4
    obtain ⟨k, rfl, hgk, hb, HXR⟩ := hrel
    have HGK := Lib.hid hgk
    have hk : k ≤ n := by omega
    clear hgk
    by_cases hlt : k < n
    · have hkl : k < vals.length := by have := HVL.out; omega
      obtain ⟨b2, off2, rfl, hs0, hs1⟩ := (HV.out.later hb).vals hkl
      obtain ⟨hv1, hv2⟩ := HVI.out _ (List.getElem_mem hkl)
      generalize vals[k] = x at hs0 hs1 hv1 hv2
      obtain ⟨x1, x2⟩ := x
      dsimp only at hs0 hs1 hv1 hv2
      obtain ⟨b3, B3, z3⟩ := boxed0 wr [.int .i64 ((x1 : Int) - 1), .int .i64 ((x2 : Int) - 1)] 96
      obtain ⟨hy0, hy1, _, _⟩ := B3.two
      have HB3 := Lib.hid (hb.trans (b3.mono hb.size))
      have HX3 := Lib.hid (HXR.out.next b3)
      have hk0 : (0 : Int) ≤ (k : Int) := by omega
      have hkn : (k : Int) < (n : Int) := by omega
      have hd1 : decide ((k : Int) < (n : Int)) = true := by simp; omega
      have hd2 : decide (k < n) = true := by simp; omega
      have e1 : decide ((x1 : Int) - 1 < -1) = false := by simp; omega
      have e2 : decide ((4398046511104 : Int) < (x1 : Int) - 1) = false := by simp; omega
      have e3 : decide ((x2 : Int) - 1 < -1) = false := by simp; omega
      have e4 : decide ((200 : Int) ≤ (x2 : Int) - 1) = false := by simp; omega
      clear hlt b3 B3 z3
      go_wp2_with fail
      go_roundg (n - (k + 1))
      case measure => have := HGK.out; omega
      case rel => exact ⟨k + 1, by go_num, by omega, HB3.out, HX3⟩
    · obtain rfl : n = k := by omega
      have hd1 : decide ((n : Int) < (n : Int)) = false := by simp
      have hd2 : decide (n < n) = false := by simp
      obtain ⟨hx0, hx1, hx2, hx3, hx4⟩ := HXR.out.five
      have HBO := Lib.hid hb
      clear hlt hb
      go_wp2_with fail
      obtain ⟨wo, hwo⟩ : ∃ wo : World, wo = wr := ⟨_, rfl⟩
      rw [← hwo] at HXR HBO ⊢
      clear hwo hx0 hx1 hx2 hx3 hx4
      go_loopg [2, 6, 68] m (fun gk v2 v6 v68 wr => ∃ k : Nat, v68 = .int .i64 (k : Int) ∧ k + gk = m ∧ Below w.heap.size w wr ∧ Hid (Bx wr g [.int .i64 (step : Int), .int .i64 (phase : Int), .bool fresh, .slice p n c, .slice p' m c']))
      case atStart => exact ⟨0, rfl, by omega, HBO.out, HXR⟩
      case round =>
        clear HXR
        obtain ⟨k, rfl, hgk, hb, HXR⟩ := hrel
        have HGK := Lib.hid hgk
        have hk : k ≤ m := by omega
        clear hgk
        by_cases hlt : k < m
        · have hkl : k < mail.length := by have := HML.out; omega
          obtain ⟨b2, off2, rfl, hs0, hs1⟩ := (HM.out.later hb).mail hkl
          obtain ⟨hv1, hv2⟩ := HMI.out _ (List.getElem_mem hkl)
          generalize mail[k] = x at hs0 hs1 hv1 hv2
          obtain ⟨x1, x2⟩ := x
          dsimp only at hs0 hs1 hv1 hv2
          obtain ⟨b3, B3, z3⟩ := boxed0 wr [.int .i64 (x1 : Int), .int .i64 (x2 : Int)] 103
          obtain ⟨hy0, hy1, _, _⟩ := B3.two
          have HB3 := Lib.hid (hb.trans (b3.mono hb.size))
          have HX3 := Lib.hid (HXR.out.next b3)
          have hk0 : (0 : Int) ≤ (k : Int) := by omega
          have hkn : (k : Int) < (m : Int) := by omega
          have hd1 : decide ((k : Int) < (m : Int)) = true := by simp; omega
          have hd2 : decide (k < m) = true := by simp; omega
          have e1 : decide ((200 : Int) ≤ (x1 : Int)) = false := by simp; omega
          have e2 : decide ((4398046511104 : Int) < (x2 : Int)) = false := by simp; omega
          have e1' : decide (200 ≤ x1) = false := by simp; omega
          have e2' : decide (4398046511104 < x2) = false := by simp; omega
          clear hlt b3 B3 z3
          go_wp2_with fail
          go_roundg (m - (k + 1))
          case measure => have := HGK.out; omega
          case rel => exact ⟨k + 1, by go_num, by omega, HB3.out, HX3⟩
        · obtain rfl : m = k := by omega
          have hd1 : decide ((m : Int) < (m : Int)) = false := by simp
          have hd2 : decide (m < m) = false := by simp
          obtain ⟨hx0, hx1, hx2, hx3, hx4⟩ := HXR.out.five
          have HB4 := Lib.hid hb
          clear hlt hb
          go_wp2_with fail
          refine (HSO.out _ HB4.out).mono ?_; rintro e w5 ⟨p5, c5, rfl, ho5, hb5⟩
          have HB5 := Lib.hid (HB4.out.trans (hb5.mono HB4.out.size))
          have HQ := Lib.hid (HEQ.out p5 c5 w5 (Sl.of_own ho5) HB5.out)
          have HX5 := Lib.hid (HXR.out.next hb5)
          clear hx0 hx1 hx2 hx3 hx4 ho5 hb5 HXR
          obtain ⟨hx0, hx1, hx2, hx3, hx4⟩ := HX5.out.five
          go_wp2_with fail
          refine HQ.out.mono ?_; rintro e w6 ⟨rfl, hb6⟩
          go_wp2_with fail
          go_ret
          exact ⟨rfl, HB5.out.trans (hb6.mono HB5.out.size)⟩
end Go.Proofs.YtmdbcknlipahgaaDoor
