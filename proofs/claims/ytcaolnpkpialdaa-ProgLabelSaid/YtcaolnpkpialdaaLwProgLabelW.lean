/- The walk of the law ProgLabel. -/
import Derived.Test.YtcaolnpkpialdaaValues
import Derived.Test.YtcaolnpkpialdaaWkW2
import Derived.Test.YtcaolnpkpialdaaWkW3
import Derived.Test.YtcaolnpkpialdaaWkW4
import Derived.Test.YtcaolnpkpialdaaWkW5
import Derived.Deep.RegionHeld3
import Derived.Deep.QuietTactic
import Derived.BigQuiet
import Derived.Deep.DeepCutAuto
namespace Go.Proofs.Ytcaolnpkpialdaa
open Go.RowKit
/-- has a vertex its label behind this? -/
def labB (fr : Bool) (a v : Int) (l : List Int) : Bool := if fr = true then decide (a = v) else decide (a ∈ l)
theorem wake_lab (fr : Bool) (p : Option Addr) (c : Nat) (v src a : Int) (l : List Int) (w : World) (hl : IsI w (.slice p l.length c) l) (hv : 0 ≤ v) (hv2 : v < 200) (ha : -1 ≤ a) (ha2 : a ≤ 199) (hm : ∀ m ∈ l, 0 ≤ m ∧ m ≤ 199) :
    Calls Try.prog 22 #[.int .i64 3, .int .i64 v, .int .i64 src, .agg #[.int .i64 a, .int .i64 (-1)], .int .i64 1, .bool fr, .slice p l.length c] w fun e w' => e = .returned (.tuple #[.agg #[.int .i64 a, .int .i64 (if labB fr a v l = true then a else -1)], .bool (labB fr a v l), .int .i64 0]) ∧ Below w.heap.size w w' := by
  cases fr
  · refine (wake_smail p c v src a (-1) l w hl hv hv2 ha ha2 (by omega) (by omega) hm rfl).mono ?_
    rintro e w' ⟨rfl, hb⟩
    exact ⟨by simp [labB], hb⟩
  · refine (wake_sfresh p c v src a (-1) l w hl hv hv2 ha ha2 (by omega) (by omega) hm rfl).mono ?_
    rintro e w' ⟨rfl, hb⟩
    exact ⟨by simp [labB], hb⟩
theorem wake_labd (fr : Bool) (p : Option Addr) (c : Nat) (v src a : Int) (l : List Int) (w : World) (hl : IsI w (.slice p l.length c) l) (hv : 0 ≤ v) (hv2 : v < 200) (ha : 0 ≤ a) (ha2 : a ≤ 199) (hm : ∀ m ∈ l, 0 ≤ m ∧ m ≤ 199) :
    Calls Try.prog 22 #[.int .i64 3, .int .i64 v, .int .i64 src, .agg #[.int .i64 a, .int .i64 a], .int .i64 1, .bool fr, .slice p l.length c] w fun e w' => e = .returned (.tuple #[.agg #[.int .i64 a, .int .i64 a], .bool false, .int .i64 0]) ∧ Below w.heap.size w w' := by
  cases fr
  · exact wake_slabm p c v src a a l w hl hv hv2 (by omega) ha2 (by omega) (by omega) hm (by omega)
  · exact wake_slabf p c v src a a l w hl hv hv2 (by omega) ha2 (by omega) (by omega) hm (by omega)
/-- the law's own count -/
def hereB (fr : Bool) (a v : Int) (l : List Int) (k : Nat) : Bool := (fr && decide (a = v)) || (!fr && decide (a ∈ l.take k))
theorem hereB_zero (fr : Bool) (a v : Int) (l : List Int) : hereB fr a v l 0 = (fr && decide (a = v)) := by simp [hereB]
theorem hereB_all (fr : Bool) (a v : Int) (l : List Int) : hereB fr a v l l.length = labB fr a v l := by cases fr <;> simp [hereB, labB]
theorem hereB_succ (fr : Bool) (a v : Int) (l : List Int) (k : Nat) (hk : k < l.length) : hereB fr a v l (k + 1) = (hereB fr a v l k || (!fr && (l[k] == a))) := by
  have e : a ∈ l.take (k + 1) ↔ (a ∈ l.take k ∨ l[k] = a) := by
    rw [List.take_succ_eq_append_getElem hk, List.mem_append, List.mem_singleton]
    exact or_congr Iff.rfl eq_comm
  have e' : decide (a ∈ l.take (k + 1)) = (decide (a ∈ l.take k) || (l[k] == a)) := by
    rw [Bool.eq_iff_iff]
    simp only [decide_eq_true_eq, Bool.or_eq_true, beq_iff_eq]
    exact e
  unfold hereB
  rw [e']
  cases fr <;> simp
set_option linter.unusedVariables false in
set_option maxHeartbeats 8000000 in
set_option maxRecDepth 100000 in
theorem progLabel_walk (w : World) (x : Int) (hx0 : -9223372036854775808 ≤ x) (hx1 : x ≤ 9223372036854775807) (y : Int) (hy0 : -9223372036854775808 ≤ y) (hy1 : y ≤ 9223372036854775807) (v2 : Value) (L : List Int) (h2 : IsI w v2 L) (fr : Bool) :
    Calls Try.prog 7 #[.int .i64 x, .int .i64 y, v2, .bool fr] w fun e w' => e = .returned (.bool true) ∧ Below w.heap.size w w' := by
  obtain ⟨p2, c2, rfl⟩ := h2.val
  obtain ⟨-, hlc, hc63⟩ := h2.lens
  have HPX := Lib.hid (fun w' => picked_i x 20 20 w' rfl hx0 hx1 (by omega) (by omega))
  have HPY := Lib.hid (fun w' => picked_i y 20 20 w' rfl hy0 hy1 (by omega) (by omega))
  have HVL := Lib.hid (fun (W : World) (hW : Below w.heap.size w W) => values_ok p2 c2 L W (h2.later hW))
  have hxa := pickN_lt x (m := 20) (by omega)
  have hya := pickN_lt y (m := 20) (by omega)
  generalize pickN x 20 = v at *
  generalize pickN y 20 = a at *
  have HVB := Lib.hid (fun (x : Int) (hx : x ∈ valF L) => show 0 ≤ x ∧ x ≤ 200 by have := valF_bd (l := L) x hx; omega)
  have HVB9 := Lib.hid (fun (x : Int) (hx : x ∈ valF L) => show 0 ≤ x ∧ x ≤ 199 by have := valF_bd (l := L) x hx; omega)
  have hvl := valF_len L
  generalize valF L = T at *
  have HW1 := Lib.hid (fun (W : World) (p : Option Addr) (c : Nat) (h : IsI W (.slice p T.length c) T) => wake_lab fr p c (v : Int) 0 (a : Int) T W h (by omega) (by omega) (by omega) (by omega) HVB9.out)
  have HW2 := Lib.hid (fun (W : World) (p : Option Addr) (c : Nat) (h : IsI W (.slice p T.length c) T) => wake_labd fr p c (v : Int) 0 (a : Int) T W h (by omega) (by omega) (by omega) (by omega) HVB9.out)
  have HH0 := Lib.hid (hereB_zero fr a v T)
  have HHn := Lib.hid (hereB_all fr a v T)
  have HHs := Lib.hid (fun k hk => hereB_succ fr a v T k hk)
  generalize labB fr a v T = H at *
  generalize hereB fr a v T = hh at *
  have hB := Lib.hid (show H = H from rfl)
  obtain ⟨n, hn⟩ : ∃ n, n = L.length := ⟨_, rfl⟩
  have HN := Lib.hid hn
  rw [← hn] at hlc HVL ⊢
  clear hn h2 hx0 hx1 hy0 hy1 hB
  obtain ⟨m, hm⟩ : ∃ m, m = T.length := ⟨_, rfl⟩
  have HM := Lib.hid hm
  rw [← hm] at HVL HW1 HW2 HHn hvl
  clear hm
  obtain ⟨b1, B1, z1⟩ := boxed0 w [.int .i64 (a : Int), .int .i64 (-1)] 49
  go_enter Try.func7, Try.ntmps7
  go_wp2_with fail
  refine (HPX.out _).mono ?_; rintro e wn ⟨rfl, rfl⟩
  go_wp2_with fail
  refine (HPY.out _).mono ?_; rintro e wn ⟨rfl, rfl⟩
  go_wp2_with fail
  generalize (w.alloc (.cells #[.int .i64 (a : Int), .int .i64 (-1)] 49)) = w1 at *
  obtain ⟨gx, hgx⟩ : ∃ gx, gx = w.heap.size := ⟨_, rfl⟩
  rw [← hgx] at B1 ⊢
  have hgl : gx < w1.heap.size := by omega
  clear hgx
  refine (HVL.out _ b1).mono ?_; rintro e w2 ⟨q2, d2, rfl, ho2, hb2⟩
  have hI2 := isI_own ho2 HVB.out
  have B2 := B1.next hb2
  have hb12 := b1.trans (hb2.mono b1.size)
  clear ho2 hb2 b1 B1
  obtain ⟨hx0, hx1, _, _⟩ := B2.two
  go_wp2_with fail
  refine (HW1.out _ _ _ hI2).mono ?_; rintro e w3 ⟨rfl, hb3⟩
  go_upto_region 5 with fail
  generalize hLB : (if H = true then (a : Int) else -1) = LB at *
  have HLB := Lib.hid hLB
  clear hLB
  obtain ⟨b4, B4, z4⟩ := boxed0 w3 [.int .i64 (a : Int), .int .i64 LB] 49
  generalize (w3.alloc (.cells #[.int .i64 (a : Int), .int .i64 LB] 49)) = w4 at *
  have hI4 := (hI2.later hb3).later b4
  have X4 := (B2.next hb3).next b4
  have hb14 := (hb12.trans (hb3.mono hb12.size)).trans (b4.mono (Nat.le_trans hb12.size hb3.size))
  obtain ⟨gy, hgy⟩ : ∃ gy, gy = w3.heap.size := ⟨_, rfl⟩
  rw [← hgy] at B4 ⊢
  clear hgy b4 hb3 hb12 B2 hI2 hx0 hx1 z4
  have HI4 := Lib.hid hI4
  have HX4 := Lib.hid X4
  have HY4 := Lib.hid B4
  have HB4 := Lib.hid hb14
  obtain ⟨hx0, hx1, _, _⟩ := X4.two
  obtain ⟨hy0, hy1, _, _⟩ := B4.two
  clear hI4 X4 B4 hb14
  obtain ⟨wo, rfl⟩ : ∃ wo : World, wo = w4 := ⟨_, rfl⟩
  go_cut [15] (fun s15 wx => s15 = .bool (hh 0) ∧ wx = wo)
  case first =>
    cases fr
    · go_wp2_with fail
      go_meet
      case rel => exact ⟨by rw [HH0.out]; rfl, rfl⟩
    · by_cases hav : (a : Int) = v
      · have e1 : ((a : Int) == (v : Int)) = true := by simp; omega
        have e2 : (a == v) = true := by simp; omega
        have EV := Lib.hid (show decide ((a : Int) = v) = true from decide_eq_true hav)
        clear hav
        go_wp2_with fail
        go_meet
        case rel => exact ⟨by rw [HH0.out, EV.out]; rfl, rfl⟩
      · have e1 : ((a : Int) == (v : Int)) = false := by simp; omega
        have e2 : (a == v) = false := by simp; omega
        have EV := Lib.hid (show decide ((a : Int) = v) = false from decide_eq_false hav)
        clear hav
        go_wp2_with fail
        go_meet
        case rel => exact ⟨by rw [HH0.out, EV.out]; rfl, rfl⟩
  case rest =>
  obtain ⟨rfl, rfl⟩ := hcut
  obtain ⟨wo, rfl⟩ : ∃ wo : World, wo = wc := ⟨_, rfl⟩
  go_wp2_with fail
  go_loopg [15, 16] m (fun gk v15 v16 wr => ∃ k : Nat, v16 = .int .i64 (k : Int) ∧ k + gk = m ∧ v15 = .bool (hh k) ∧ Below wo.heap.size wo wr)
  case atStart => exact ⟨0, rfl, by omega, rfl, Below.refl _ _⟩
  case round =>
    obtain ⟨k, rfl, hgk, rfl, hb⟩ := hrel
    have HGK := Lib.hid hgk
    have hk : k ≤ m := by omega
    clear hgk hx0 hx1 hy0 hy1
    obtain ⟨hx0, hx1, _, _⟩ := (HX4.out.next hb).two
    obtain ⟨hy0, hy1, _, _⟩ := (HY4.out.next hb).two
    by_cases hlt : k < m
    · have hkl : k < T.length := by have := HM.out; omega
      obtain ⟨bb, off, he, hc0⟩ := (HI4.out.later hb).getI hkl
      subst he
      have hsu := HHs.out k hkl
      have hbd := HVB.out _ (List.getElem_mem hkl)
      generalize T[k] = t at *
      have hk0 : (0 : Int) ≤ (k : Int) := by omega
      have hkn : (k : Int) < (m : Int) := by omega
      have hd1 : decide ((k : Int) < (m : Int)) = true := by simp; omega
      have hd2 : decide (k < m) = true := by simp; omega
      have HHS := Lib.hid hsu
      clear hsu hlt
      rcases hhk : hh k with _ | _
      · cases fr
        · by_cases hta : t = (a : Int)
          · have hq : hh (k + 1) = true := by rw [HHS.out, hhk, hta]; simp
            have HQ := Lib.hid hq
            subst hta
            clear hq hhk
            go_wp2_with fail
            go_quiet (fail)
            go_wp2_with fail
            go_roundg (m - (k + 1))
            case measure => have := HGK.out; omega
            case rel => exact ⟨k + 1, by go_num, by omega, by rw [HQ.out], below_drewN hb _⟩
          · have e1 : (t == (a : Int)) = false := by simp [hta]
            have hq : hh (k + 1) = false := by rw [HHS.out, hhk, e1]; simp
            have HQ := Lib.hid hq
            clear hq hhk hta
            go_wp2_with fail
            go_quiet (fail)
            go_wp2_with fail
            go_roundg (m - (k + 1))
            case measure => have := HGK.out; omega
            case rel => exact ⟨k + 1, by go_num, by omega, by rw [HQ.out], below_drewN hb _⟩
        · have hq : hh (k + 1) = false := by rw [HHS.out, hhk]; simp
          have HQ := Lib.hid hq
          clear hq hhk
          go_wp2_with fail
          go_quiet (fail)
          go_wp2_with fail
          go_roundg (m - (k + 1))
          case measure => have := HGK.out; omega
          case rel => exact ⟨k + 1, by go_num, by omega, by rw [HQ.out], below_drewN hb _⟩
      · have hq : hh (k + 1) = true := by rw [HHS.out, hhk]; simp
        have HQ := Lib.hid hq
        clear hq hhk
        go_wp2_with fail
        go_quiet (fail)
        go_wp2_with fail
        go_roundg (m - (k + 1))
        case measure => have := HGK.out; omega
        case rel => exact ⟨k + 1, by go_num, by omega, by rw [HQ.out], below_drewN hb _⟩
    · obtain rfl : k = m := by omega
      have hd1 : decide ((k : Int) < (k : Int)) = false := by simp
      have hd2 : decide (k < k) = false := by simp
      have hHn := HHn.out
      have hfin := Lib.hid (HB4.out.trans (hb.mono HB4.out.size))
      have HIr := Lib.hid (HI4.out.later hb)
      have ha1 : (0 : Int) ≤ (a : Int) := by omega
      have hna : ¬ (-1 : Int) = (a : Int) := by omega
      have hna1 : ((-1 : Int) == (a : Int)) = false := by simp
      rcases hH : H with _ | _
      · obtain rfl : LB = -1 := by rw [← HLB.out, hH]; rfl
        rw [hH] at hHn
        have HQ := Lib.hid hHn
        clear hHn hlt
        subst hH
        rw [HQ.out]
        go_wp2_with fail
        go_ret
        exact ⟨rfl, hfin.out⟩
      · obtain rfl : LB = (a : Int) := by rw [← HLB.out, hH]; rfl
        rw [hH] at hHn
        have HQ := Lib.hid hHn
        clear hHn hlt
        subst hH
        rw [HQ.out]
        go_wp2_with fail
        refine (HW2.out _ _ _ HIr.out).mono ?_; rintro e w5 ⟨rfl, hb5⟩
        obtain ⟨b6, B6, z6⟩ := boxed0 w5 [.int .i64 (a : Int), .int .i64 (a : Int)] 49
        have hb56 := hb5.trans (b6.mono hb5.size)
        obtain ⟨hx0, hx1, _, _⟩ := ((HX4.out.next hb).next hb56).two
        obtain ⟨hy0, hy1, _, _⟩ := ((HY4.out.next hb).next hb56).two
        obtain ⟨hz0, hz1, _, _⟩ := B6.two
        have hfin2 := Lib.hid (hfin.out.trans (hb56.mono hfin.out.size))
        clear b6 B6 z6 hb5 hb56
        go_wp2_with fail
        go_ret
        exact ⟨rfl, hfin2.out⟩
end Go.Proofs.Ytcaolnpkpialdaa
