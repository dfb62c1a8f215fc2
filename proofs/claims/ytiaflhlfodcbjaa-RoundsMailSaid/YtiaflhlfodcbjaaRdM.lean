/- The walk of rounds.may. -/
import Derived.Test.YtiaflhlfodcbjaaBoxed
import Derived.Deep.LoopGhost
import Derived.Deep.RegionHeld3
import Derived.IntWalk
import Derived.Deep.QuietTactic
import Derived.BigQuiet
import Derived.Test.YtiaflhlfodcbjaaRdC
import Derived.Deep.DeepCutAuto
namespace Go.Proofs.Ytiaflhlfodcbjaa
open Go.RowKit
theorem Sl.int {w : World} {p : Option Addr} {c n : Nat} {l : List Int} (h : Sl w 1 (.slice p n c) n (its l)) {i : Nat} (hi : i < l.length) : ∃ b off, p = some ⟨b, off, none⟩ ∧ w.cell? ⟨b, off + i, none⟩ = some (.int .i64 l[i]) :=
  h.get (by unfold its; rw [List.getElem?_map, List.getElem?_eq_getElem hi]; rfl)
theorem Sl.ilen {w : World} {p : Option Addr} {c n : Nat} {l : List Int} (h : Sl w 1 (.slice p n c) n (its l)) : n = l.length ∧ n ≤ c ∧ c ≤ 9223372036854775807 := by
  obtain ⟨p', c', hp, h1, h2, h3, _⟩ := h
  cases hp
  have : (its l).length = l.length := by simp [its]
  exact ⟨by omega, h1, by unfold maxLen at h2; omega⟩
set_option maxHeartbeats 1000000 in
set_option maxRecDepth 100000 in
theorem less_ok (x y : Int) (w : World) : Calls Try.prog 53 #[.int .i64 x, .int .i64 y] w fun e w' => e = .returned (.bool (decide (x < y))) ∧ w = w' := by
  have hx : (x != x) = false := by simp
  go_enter Try.func53, Try.ntmps53
  go_wp2_with go_in
  go_ret
  exact ⟨rfl, rfl⟩
set_option maxHeartbeats 2000000 in
set_option maxRecDepth 100000 in
theorem isSortI_ok (p : Option Addr) (n c : Nat) (l : List Int) (w : World) (h : Sl w 1 (.slice p n c) n (its l)) (hs : l.Pairwise (· ≤ ·)) :
    Calls Try.prog 42 #[.slice p n c] w fun e w' => e = .returned (.bool true) ∧ Below w.heap.size w w' := by
  obtain ⟨hln, hnc, hc63⟩ := h.ilen
  have HL := Lib.hid h
  have HLN := Lib.hid hln
  have HSR := Lib.hid (show ∀ k (h1 : k + 1 < l.length), l[k] ≤ l[k + 1] from fun k h1 => List.pairwise_iff_getElem.1 hs k (k + 1) (by omega) h1 (by omega))
  clear h hln hs
  have hn1 : IntKind.i64.wrap ((n : Int) - 1) = (n : Int) - 1 := IntWalk.i64_in _ (by omega)
  go_enter Try.func42, Try.ntmps42
  go_wp2_with fail
  clear hn1
  go_loopg [3] (n + 1) (fun gk v3 wr => ∃ i : Int, v3 = .int .i64 i ∧ -1 ≤ i ∧ i < (n : Int) ∧ i + 1 = (gk : Int) - 1 ∧ Below w.heap.size w wr)
  case atStart => exact ⟨(n : Int) - 1, rfl, by omega, by omega, by omega, Below.refl _ _⟩
  case round =>
    obtain ⟨i, rfl, hi0, hin, hgk, hb⟩ := hrel
    have HGK := Lib.hid hgk
    clear hgk
    by_cases hlt : 0 < i
    · obtain ⟨k, rfl⟩ : ∃ k : Nat, i = (k : Int) + 1 := ⟨(i - 1).toNat, by omega⟩
      have hk1 : k + 1 < l.length := by have := HLN.out; omega
      obtain ⟨b, off, rfl, hc1⟩ := (HL.out.later hb).int hk1
      obtain ⟨b', off', he, hc0⟩ := (HL.out.later hb).int (show k < l.length by omega)
      cases he
      have hle := HSR.out k hk1
      generalize l[k] = x at hc0 hle
      generalize l[k + 1] = y at hc1 hle
      have hw1 : IntKind.i64.wrap (k : Int) = (k : Int) := IntWalk.i64_in _ (by omega)
      have hw0 : IntKind.i64.wrap ((k : Int) + 1 - 1) = (k : Int) := by rw [show (k : Int) + 1 - 1 = (k : Int) by omega]; exact IntWalk.i64_in _ (by omega)
      have hd : decide (y < x) = false := by simp; omega
      have hd1 : decide ((0 : Int) < (k : Int) + 1) = true := by simp <;> omega
      have hk0 : (0 : Int) ≤ (k : Int) + 1 := by omega
      have hk2 : (k : Int) + 1 < (n : Int) := by omega
      have hkk : (0 : Int) ≤ (k : Int) := by omega
      have hkn : (k : Int) < (n : Int) := by omega
      have ht1 : ((k : Int) + 1).toNat = k + 1 := by omega
      have HLS := Lib.hid (fun W => (less_ok y x W))
      rw [hd] at HLS
      clear hlt hd hle
      go_wp2_with fail
      go_region_held3 (fun w' => w'.cell? ⟨b, off + k, none⟩ = some (Value.int .i64 x) ∧ w'.cell? ⟨b, off + (k + 1), none⟩ = some (Value.int .i64 y)) (first | (exact ⟨hc0, hc1⟩) | go_keep)
        (first
          | (go_at_call 53; refine (HLS.out _).mono ?_; rintro e wn ⟨rfl, rfl⟩)
          | fail)
      all_goals go_wp2_with fail
      all_goals go_roundg (k + 2)
      all_goals first
        | (case measure => have := HGK.out; omega)
        | exact ⟨(k : Int), by go_num, by omega, by omega, by omega, Below.drew hb⟩
        | (have := HGK.out; omega)
    · have hd1 : decide ((0 : Int) < i) = false := by simp; omega
      go_wp2_with fail
      go_ret
      exact ⟨rfl, hb⟩
end Go.Proofs.Ytiaflhlfodcbjaa
namespace Go.Proofs.Ytiaflhlfodcbjaa
open Go.RowKit
theorem aV_at {s : RSt} {v : Nat} (h : v < s.vals.length) : aV s v = s.vals[v] := by
  unfold aV; rw [List.getD_eq_getElem?_getD, List.getElem?_eq_getElem h]; rfl
theorem mL_at {s : RSt} {v : Nat} (h : v < s.mail.length) : mL s v = s.mail[v] := by
  unfold mL; rw [List.getD_eq_getElem?_getD, List.getElem?_eq_getElem h]; rfl
/-- pieces of mail of the first vertices -/
def many (R : List (List Int)) (k : Nat) : Nat := ((R.take k).map List.length).sum
theorem many_succ {R : List (List Int)} {k : Nat} (h : k < R.length) : many R (k + 1) = many R k + R[k].length := by
  unfold many
  rw [List.take_succ_eq_append_getElem h, List.map_append, List.sum_append]; simp
theorem many_le (R : List (List Int)) (k : Nat) : many R k ≤ (R.map List.length).sum := by
  unfold many
  have e : (R.map List.length).sum = ((R.take k).map List.length).sum + ((R.drop k).map List.length).sum := by
    rw [← List.sum_append, ← List.map_append, List.take_append_drop]
  omega
theorem many_none {R : List (List Int)} (h : ∀ r ∈ R, r = []) : (R.map List.length).sum = 0 := by
  apply sum_zero
  intro x hx
  obtain ⟨r, hr, rfl⟩ := List.mem_map.1 hx
  rw [h r hr]; rfl
set_option maxHeartbeats 8000000 in
set_option maxRecDepth 100000 in
theorem jmay_ok (p : Option Addr) (c n N kind : Nat) (src : Int) (E : List Eg) (v : Value) (s : RSt) (w : World) (h : JobOk w p c n N kind src E) (hv : RdSt w 0 N v s) (hG : GoodS kind N s) (hst : s.step ≤ 1000) :
    Calls Try.prog 24 #[jobV p c n N kind src, v] w fun e w' => e = .returned (.bool true) ∧ Below w.heap.size w w' := by
  have hN1 := h.N1
  have hN10 := h.N10
  have hk1 := h.k1
  have hk3 := h.k3
  clear h
  obtain ⟨pv, pm, cv, cm, rfl, hsv, hsm, hvl⟩ := hv
  have HV := Lib.hid hsv
  have HR := Lib.hid hsm
  have HVL := Lib.hid hvl
  have HML := Lib.hid hG.ml
  have HVA := Lib.hid (show ∀ k (hk : k < s.vals.length), (-1 ≤ (s.vals[k]).1 ∧ (s.vals[k]).1 ≤ capF kind N s.step) ∧ (-1 ≤ (s.vals[k]).2 ∧ (s.vals[k]).2 < (N : Int)) from fun k hk => by rw [← aV_at hk]; exact hG.va k (by omega))
  have hml := hG.ml
  have HMS := Lib.hid (show ∀ k (hk : k < s.mail.length), (s.mail[k]).Pairwise (· ≤ ·) from fun k hk => by rw [← mL_at hk]; exact hG.ms k (by omega))
  have HMA := Lib.hid (show ∀ k (hk : k < s.mail.length), ∀ m ∈ s.mail[k], 0 ≤ m ∧ m ≤ capF kind N s.step from fun k hk => by rw [← mL_at hk]; exact hG.ma k (by omega))
  have hsum := hG.sm
  have HEM := Lib.hid (show (s.fresh = true ∨ s.done = true) → many s.mail N = 0 from fun hf => by
    have h1 := many_none (R := s.mail) (fun r hr => by
      obtain ⟨i, hi, rfl⟩ := List.mem_iff_getElem.1 hr
      rw [← mL_at hi]
      exact hG.em hf i (by omega))
    have := many_le s.mail N
    omega)
  have hph := hG.ph
  have hfd := hG.fd
  obtain ⟨tp, htp, htk⟩ : ∃ tp : Int, capF kind N s.step ≤ tp ∧ tp = (if kind = 1 then 4398046511104 else 199) := by
    refine ⟨_, ?_, rfl⟩
    unfold capF
    split <;> omega
  clear hsv hsm hvl hG hml
  generalize capF kind N s.step = cap at *
  obtain ⟨step, phase, fresh, done, vals, mail⟩ := s
  dsimp only at *
  obtain ⟨b1, B1, z1⟩ := boxed0 w [.int .i64 (N : Int), .slice p n c, .int .i64 (kind : Int), .int .i64 src] 27
  have hs1 : (w.alloc (.cells #[.int .i64 (N : Int), .slice p n c, .int .i64 (kind : Int), .int .i64 src] 27)).heap.size = w.heap.size + 1 := by simp
  obtain ⟨b2, B2, z2⟩ := boxed0 (w.alloc (.cells #[.int .i64 (N : Int), .slice p n c, .int .i64 (kind : Int), .int .i64 src] 27)) [.int .i64 (step : Int), .int .i64 (phase : Int), .bool fresh, .bool done, .slice pv N cv, .slice pm N cm] 32
  have HB0 := Lib.hid (b1.trans (b2.mono (by omega)))
  have X1 := B1.next b2
  rw [hs1] at B2
  have HX := Lib.hid X1
  have HZ := Lib.hid B2
  obtain ⟨hx0, hx1, hx2, hx3, _⟩ := X1.four
  obtain ⟨hy0, hy1, hy2, hy3, hy4, hy5⟩ := B2.six
  clear b1 b2 B1 B2 X1 z1 z2 hs1
  unfold jobV
  go_enter Try.func24, Try.ntmps24
  go_upto_region 2 with fail
  generalize ((w.alloc (.cells #[.int .i64 (N : Int), .slice p n c, .int .i64 (kind : Int), .int .i64 src] 27)).alloc (.cells #[.int .i64 (step : Int), .int .i64 (phase : Int), .bool fresh, .bool done, .slice pv N cv, .slice pm N cm] 32)) = w0 at *
  obtain ⟨g, hg⟩ : ∃ g, g = w.heap.size := ⟨_, rfl⟩
  have HG := Lib.hid (show w.heap.size ≤ g from Nat.le_of_eq hg.symm)
  rw [← hg] at HX HZ hx0 hx1 hx2 hx3 hy0 hy1 hy2 hy3 hy4 hy5 ⊢
  clear hg
  have hd1 : decide ((step : Int) < 0) = false := by simp <;> omega
  have hd2 : decide ((100000 : Int) < (step : Int)) = false := by simp; omega
  have hd3 : decide (100000 < step) = false := by simp; omega
  have hst0 : (0 : Int) ≤ (step : Int) := by omega
  go_cut [43] (fun s43 wx => s43 = .bool false ∧ w0 = wx)
  case first =>
    cases fresh <;> cases done
    all_goals first
      | (exact absurd ⟨rfl, rfl⟩ hfd)
      | (go_wp2_with fail
         go_meet
         case rel => exact ⟨rfl, rfl⟩)
  case rest =>
  obtain ⟨rfl, rfl⟩ := hcut
  clear hd1 hd2 hd3 hst0
  go_upto_region 4 with fail
  go_cut [56] (fun s56 wx => s56 = .bool false ∧ w0 = wx)
  case first =>
    rcases hph with rfl | ⟨rfl, rfl⟩
    · go_wp2_with fail
      go_meet
      case rel => exact ⟨rfl, rfl⟩
    · go_wp2_with fail
      go_meet
      case rel => exact ⟨rfl, rfl⟩
  case rest =>
  obtain ⟨rfl, rfl⟩ := hcut
  go_upto_if 59 with fail
  go_cut [6] (fun s6 wx => s6 = .int .i64 tp ∧ w0 = wx)
  case first =>
    by_cases hk : kind = 1
    · rw [if_pos hk] at htk
      subst hk htk
      go_wp2_with fail
      go_meet
      case rel => exact ⟨rfl, rfl⟩
    · have e5 : ((kind : Int) == 1) = false := by simp; omega
      rw [if_neg hk] at htk
      subst htk
      go_wp2_with fail
      go_meet
      case rel => exact ⟨rfl, rfl⟩
  case rest =>
  obtain ⟨rfl, rfl⟩ := hcut
  clear htk
  go_wp2_with fail
  go_loopg [7, 63] N (fun gk v7 v63 wr => ∃ k : Nat, v63 = .int .i64 (k : Int) ∧ k + gk = N ∧ v7 = .int .i64 ((many mail k : Nat) : Int) ∧ Hid (Below w.heap.size w wr) ∧ Hid (Bx wr g [.int .i64 (N : Int), .slice p n c, .int .i64 (kind : Int), .int .i64 src]) ∧ Hid (Bx wr (g + 1) [.int .i64 (step : Int), .int .i64 (phase : Int), .bool fresh, .bool done, .slice pv N cv, .slice pm N cm]))
  case atStart => exact ⟨0, rfl, by omega, rfl, HB0, HX, HZ⟩
  case round =>
    clear HX HZ HB0 hx0 hx1 hx2 hx3 hy0 hy1 hy2 hy3 hy4 hy5
    obtain ⟨k, rfl, hgk, rfl, HB, HX, HZ⟩ := hrel
    have HGK := Lib.hid hgk
    have hk : k ≤ N := by omega
    clear hgk
    obtain ⟨hy0, hy1, hy2, hy3, hy4, hy5⟩ := HZ.out.six
    have hmk := many_le mail k
    by_cases hlt : k < N
    · have hkv : k < vals.length := by have := HVL.out; omega
      have hkm : k < mail.length := by have := HML.out; omega
      have HMN := Lib.hid (many_succ hkm)
      obtain ⟨bv, ov, rfl, hc0, hc1⟩ := (HV.out.1.later HB.out).vl hkv
      obtain ⟨bm, om, q, d, rfl, hcm, hrow⟩ := (HR.out.later HB.out).get (List.getElem?_eq_getElem hkm)
      have hva := HVA.out k hkv
      have hms := HMS.out k hkm
      have hma := HMA.out k hkm
      generalize vals[k] = x at hc0 hc1 hva
      obtain ⟨xa, xb⟩ := x
      dsimp only at hc0 hc1 hva
      obtain ⟨⟨ha0, ha1⟩, hb0, hb1⟩ := hva
      generalize mail[k] = r at hcm hrow hms hma HMN
      obtain ⟨rn, hrn⟩ : ∃ rn, rn = r.length := ⟨_, rfl⟩
      have HRN := Lib.hid hrn
      rw [← hrn] at hcm hrow HMN
      clear hrn
      have hk0 : (0 : Int) ≤ (k : Int) := by omega
      have hkn : (k : Int) < (N : Int) := by omega
      have hd1 : decide ((k : Int) < (N : Int)) = true := by simp; omega
      have hd2 : decide (k < N) = true := by simp; omega
      have ea : decide (xa < -1) = false := by simp; omega
      have eb : decide (tp < xa) = false := by simp; omega
      have ec : decide (xb < -1) = false := by simp; omega
      have ed : decide ((200 : Int) ≤ xb) = false := by simp; omega
      obtain ⟨b3, B3, z3⟩ := boxed0 wr [.int .i64 xa, .int .i64 xb] 40
      have HBY := Lib.hid (HB.out.trans (b3.mono HB.out.size))
      have HXY := Lib.hid (HX.out.next b3)
      have HZY := Lib.hid (HZ.out.next b3)
      have HRW := Lib.hid (hrow.later b3)
      have HIS := Lib.hid (isSortI_ok q rn d r _ (hrow.later b3).1 hms)
      obtain ⟨hv0, hv1, _, _⟩ := B3.two
      clear hlt hrow hms b3 B3 z3 ha0 ha1 hb0 hb1
      go_wp2_with fail
      refine HIS.out.mono ?_; rintro e w2 ⟨rfl, hb2⟩
      have HB2 := Lib.hid (HBY.out.trans (hb2.mono HBY.out.size))
      have HX2 := Lib.hid (HXY.out.next hb2)
      have HZ2 := Lib.hid (HZY.out.next hb2)
      have HR2 := Lib.hid (HRW.out.later hb2)
      have hmn1 : many mail (k + 1) ≤ 1000 := Nat.le_trans (many_le _ _) hsum
      have hmn2 : many mail k + rn ≤ 1000 := by have := HMN.out; omega
      clear hb2 ea eb ec ed hv0 hv1 hc0 hc1 hcm
      by_cases hr0 : rn = 0
      · subst hr0
        go_wp2_with fail
        go_roundg (N - (k + 1))
        case measure => have := HGK.out; omega
        case rel => exact ⟨k + 1, by go_num, by omega, by rw [HMN.out, Nat.add_zero], HB2, HX2, HZ2⟩
      · have hr1 : 0 < r.length := by have := HRN.out; omega
        have hr2 : rn - 1 < r.length := by have := HRN.out; omega
        obtain ⟨b4, o4, rfl, hl0⟩ := HR2.out.1.int hr1
        obtain ⟨b4', o4', he, hl1⟩ := HR2.out.1.int hr2
        cases he
        have hm0 := hma _ (List.getElem_mem hr1)
        have hm1 := hma _ (List.getElem_mem hr2)
        generalize r[0] = m0 at hl0 hm0
        generalize r[rn - 1] = m1 at hl1 hm1
        rw [Nat.add_zero] at hl0
        have hrp : 0 < rn := by omega
        have hrpi : (0 : Int) < (rn : Int) := by omega
        have hrs : (rn : Int) - 1 = ((rn - 1 : Nat) : Int) := by omega
        have hrl : ((rn - 1 : Nat) : Int) < (rn : Int) := by omega
        have hrz : (0 : Int) ≤ ((rn - 1 : Nat) : Int) := by omega
        have hdr : decide ((0 : Int) < (rn : Int)) = true := by simp; omega
        have hdr2 : decide (0 < rn) = true := by simp; omega
        have ee : decide (m0 < 0) = false := by simp; omega
        have ef : decide (tp < m1) = false := by simp; omega
        clear hm0 hm1 hr1 hr2 hma
        go_wp2_with fail
        go_roundg (N - (k + 1))
        case measure => have := HGK.out; omega
        case rel => exact ⟨k + 1, by go_num, by omega, by rw [HMN.out]; go_num, HB2, HX2, HZ2⟩
    · obtain rfl : k = N := by omega
      have hd1 : decide ((k : Int) < (k : Int)) = false := by simp
      have hd2 : decide (k < k) = false := by simp
      have hm5 : decide ((many mail k : Int) ≤ 5000) = true := by simp; omega
      have hm6 : decide (many mail k ≤ 5000) = true := by simp; omega
      by_cases hm0 : many mail k = 0
      · have hm7 : ((many mail k : Int) == 0) = true := by simp; omega
        rw [hm0] at *
        go_wp2_with fail
        go_ret
        exact ⟨rfl, HB.out⟩
      · have hm7 : ((many mail k : Int) == 0) = false := by simp; omega
        have hff : fresh = false := by
          cases hf : fresh with
          | false => rfl
          | true => exact absurd (HEM.out (.inl hf)) hm0
        have hdf : done = false := by
          cases hf : done with
          | false => rfl
          | true => exact absurd (HEM.out (.inr hf)) hm0
        subst hff hdf
        clear hm0 hlt
        go_wp2_with fail
        go_ret
        exact ⟨rfl, HB.out⟩
end Go.Proofs.Ytiaflhlfodcbjaa
