/- The walk of pacelinekeep.sameState, at states that are the same. -/
import Derived.Test.YtiaflhlfodcbjaaRoundsP
import Derived.Deep.QuietTactic
import Derived.BigQuiet
namespace Go.Proofs.Ytiaflhlfodcbjaa
open Go.RowKit
theorem rd_isI {w : World} {B : Nat} {q : Option Addr} {d : Nat} {r : List Int} (h : RdB w B 1 (.slice q r.length d) r.length (its r)) (hb : ∀ m ∈ r, 0 ≤ m ∧ m ≤ 9000) : IsI w (.slice q r.length d) r :=
  ⟨h.1, fun x hx => by have := hb x hx; omega⟩
set_option maxHeartbeats 4000000 in
set_option maxRecDepth 100000 in
theorem sameState_true (N kind B1 B2 : Nat) (v u : Value) (s : RSt) (w : World) (hv : RdSt w B1 N v s) (hu : RdSt w B2 N u s) (hG : GoodS kind N s) (hN : N ≤ 10) (hst : s.step ≤ 900) :
    Calls Try.prog 16 #[v, u] w fun e w' => e = .returned (.bool true) ∧ Below w.heap.size w w' := by
  obtain ⟨pv, pm, cv, cm, rfl, hsv, hsm, hvl⟩ := hv
  obtain ⟨qv, qm, dv, dm, rfl, htv, htm, -⟩ := hu
  have HVL := Lib.hid hvl
  have HML := Lib.hid hG.ml
  have HMA := Lib.hid (show ∀ i, i < N → ∀ m ∈ mL s i, 0 ≤ m ∧ m ≤ 9000 from fun i hi m hm => by
    have h1 := hG.ma i hi m hm
    have hc : capF kind N s.step ≤ 9000 := by unfold capF; split <;> omega
    omega)
  have HV := Lib.hid hsv
  have HT := Lib.hid htv
  have HR := Lib.hid hsm
  have HQ := Lib.hid htm
  clear hsv hsm htv htm hvl hG
  have hst1 : s.step ≤ 9223372036854775807 := by omega
  generalize s.step = st at *
  generalize s.phase = ph at *
  generalize s.fresh = fr at *
  generalize s.done = dn at *
  obtain ⟨b1, B1', z1⟩ := boxed0 w [.int .i64 (st : Int), .int .i64 (ph : Int), .bool fr, .bool dn, .slice pv N cv, .slice pm N cm] 32
  generalize hw1 : (w.alloc (.cells #[.int .i64 (st : Int), .int .i64 (ph : Int), .bool fr, .bool dn, .slice pv N cv, .slice pm N cm] 32)) = w1 at *
  have hs1 : w1.heap.size = w.heap.size + 1 := by rw [← hw1]; simp
  obtain ⟨b2, B2', z2⟩ := boxed0 w1 [.int .i64 (st : Int), .int .i64 (ph : Int), .bool fr, .bool dn, .slice qv N dv, .slice qm N dm] 32
  generalize hw2 : (w1.alloc (.cells #[.int .i64 (st : Int), .int .i64 (ph : Int), .bool fr, .bool dn, .slice qv N dv, .slice qm N dm] 32)) = w2 at *
  have HB0 := Lib.hid (b1.trans (b2.mono (by omega)))
  have HX := Lib.hid (B1'.next b2)
  have HY := Lib.hid (show Bx w2 (w.heap.size + 1) _ from by have h1 := B2'; rw [hs1] at h1; exact h1)
  obtain ⟨hx0, hx1, hx2, hx3, hx4, hx5⟩ := HX.out.six
  obtain ⟨hy0, hy1, hy2, hy3, hy4, hy5⟩ := HY.out.six
  clear b1 b2 B1' B2' z1 z2
  have he3 : (fr != fr) = false := by simp
  have he4 : (dn != dn) = false := by simp
  go_enter Try.func16, Try.ntmps16
  go_upto_region 1 with fail
  clear hw1 hw2 hs1
  obtain ⟨g, hg⟩ : ∃ g, g = w.heap.size := ⟨_, rfl⟩
  have HG := Lib.hid hg
  rw [← hg] at HX HY hx0 hx1 hx2 hx3 hx4 hx5 hy0 hy1 hy2 hy3 hy4 hy5 ⊢
  clear hg
  go_wp2_with fail
  clear he3 he4
  go_loopg [5] N (fun gk v5 wr => ∃ k : Nat, v5 = .int .i64 (k : Int) ∧ k + gk = N ∧ Below w.heap.size w wr ∧ Hid (Bx wr g [.int .i64 (st : Int), .int .i64 (ph : Int), .bool fr, .bool dn, .slice pv N cv, .slice pm N cm]) ∧ Hid (Bx wr (g + 1) [.int .i64 (st : Int), .int .i64 (ph : Int), .bool fr, .bool dn, .slice qv N dv, .slice qm N dm]))
  case atStart => exact ⟨0, rfl, by omega, HB0.out, HX, HY⟩
  case round =>
    clear hx0 hx1 hx2 hx3 hx4 hx5 hy0 hy1 hy2 hy3 hy4 hy5 HX HY
    obtain ⟨k, rfl, hgk, hb, HX, HY⟩ := hrel
    have HGK := Lib.hid hgk
    have hk : k ≤ N := by omega
    clear hgk
    obtain ⟨hx0, hx1, hx2, hx3, hx4, hx5⟩ := HX.out.six
    obtain ⟨hy0, hy1, hy2, hy3, hy4, hy5⟩ := HY.out.six
    by_cases hlt : k < N
    · have hkl : k < s.vals.length := by have := HVL.out; omega
      obtain ⟨b2, off2, rfl, hs0, hs1⟩ := (HV.out.1.later hb).vl hkl
      obtain ⟨b3, off3, rfl, ht0, ht1⟩ := (HT.out.1.later hb).vl hkl
      generalize s.vals[k] = x at hs0 hs1 ht0 ht1
      obtain ⟨x1, x2⟩ := x
      dsimp only at hs0 hs1 ht0 ht1
      have hk0 : (0 : Int) ≤ (k : Int) := by omega
      have hkn : (k : Int) < (N : Int) := by omega
      have hd1 : decide ((k : Int) < (N : Int)) = true := by simp; omega
      have hd2 : decide (k < N) = true := by simp; omega
      clear hlt
      go_wp2_with fail
      go_quiet (fail)
      go_wp2_with fail
      go_roundg (N - (k + 1))
      case measure => have := HGK.out; omega
      case rel => exact ⟨k + 1, by go_num, by omega, below_drewN hb _, HX, HY⟩
    · obtain rfl : k = N := by omega
      have hd1 : decide ((k : Int) < (k : Int)) = false := by simp
      have hd2 : decide (k < k) = false := by simp
      have HB1 := Lib.hid hb
      clear hlt hb
      obtain ⟨wo, rfl⟩ : ∃ wo : World, wo = wr := ⟨_, rfl⟩
      go_wp2_with fail
      clear hd1 hd2
      go_loopg [6] k (fun gk v6 wr => ∃ i : Nat, v6 = .int .i64 (i : Int) ∧ i + gk = k ∧ Below w.heap.size w wr ∧ Hid (Bx wr g [.int .i64 (st : Int), .int .i64 (ph : Int), .bool fr, .bool dn, .slice pv k cv, .slice pm k cm]) ∧ Hid (Bx wr (g + 1) [.int .i64 (st : Int), .int .i64 (ph : Int), .bool fr, .bool dn, .slice qv k dv, .slice qm k dm]))
      case atStart => exact ⟨0, rfl, by omega, HB1.out, HX, HY⟩
      case round =>
        clear hx0 hx1 hx2 hx3 hx4 hx5 hy0 hy1 hy2 hy3 hy4 hy5 HX HY HGK
        obtain ⟨i, rfl, hgi, hb, HX, HY⟩ := hrel
        have HGI := Lib.hid hgi
        have hi : i ≤ k := by omega
        clear hgi
        obtain ⟨hx0, hx1, hx2, hx3, hx4, hx5⟩ := HX.out.six
        obtain ⟨hy0, hy1, hy2, hy3, hy4, hy5⟩ := HY.out.six
        by_cases hlt : i < k
        · have hil : i < s.mail.length := by have := HML.out; omega
          have hma := HMA.out i hlt
          rw [mL_at hil] at hma
          obtain ⟨b2, off2, q2, d2, rfl, hc2, hr2⟩ := (HR.out.later hb).get (List.getElem?_eq_getElem hil)
          obtain ⟨b3, off3, q3, d3, rfl, hc3, hr3⟩ := (HQ.out.later hb).get (List.getElem?_eq_getElem hil)
          have HSI := Lib.hid (fun (W : World) (hW : Below wr.heap.size wr W) => sameInts_true q2 q3 d2 d3 _ _ s.mail[i] W (rd_isI (hr2.later hW) hma) (rd_isI (hr3.later hW) hma))
          generalize s.mail[i].length = len at *
          have hi0 : (0 : Int) ≤ (i : Int) := by omega
          have hin : (i : Int) < (k : Int) := by omega
          have hd1 : decide ((i : Int) < (k : Int)) = true := by simp; omega
          have hd2 : decide (i < k) = true := by simp; omega
          clear hlt hma hr2 hr3
          have HSK := Lib.hid (show ∀ W, Below wr.heap.size wr W → W.cell? ⟨g, 5, none⟩ = some (.slice (some ⟨b2, off2, none⟩) k cm) ∧ W.cell? ⟨g + 1, 5, none⟩ = some (.slice (some ⟨b3, off3, none⟩) k dm) ∧ W.cell? ⟨b2, off2 + i, none⟩ = some (.slice q2 len d2) ∧ W.cell? ⟨b3, off3 + i, none⟩ = some (.slice q3 len d3) from fun W hW => ⟨below_cellOf hW hx5, below_cellOf hW hy5, below_cellOf hW hc2, below_cellOf hW hc3⟩)
          go_upto_region 11 with fail
          go_region_held3 (fun w' => w'.cell? ⟨g, 5, none⟩ = some (.slice (some ⟨b2, off2, none⟩) k cm) ∧ w'.cell? ⟨g + 1, 5, none⟩ = some (.slice (some ⟨b3, off3, none⟩) k dm) ∧ w'.cell? ⟨b2, off2 + i, none⟩ = some (.slice q2 len d2) ∧ w'.cell? ⟨b3, off3 + i, none⟩ = some (.slice q3 len d3))
            (first | (exact ⟨hx5, hy5, hc2, hc3⟩) | (exact HSK.out _ hbA) | go_keep)
            (first
              | (go_at_call 18; (with_reducible refine (HSI.out wr.drew (Below.refl _ wr).drew).mono ?_); rintro e w9 ⟨rfl, hb9⟩; have hbA : Below wr.heap.size wr w9 := ((Below.refl _ wr).drew).trans hb9)
              | fail)
          go_wp2_with fail
          go_roundg (k - (i + 1))
          case measure => have := HGI.out; omega
          case rel => exact ⟨i + 1, by go_num, by omega, hb.trans (hbA.mono hb.size), Lib.hid (HX.out.next hbA), Lib.hid (HY.out.next hbA)⟩
        · obtain rfl : i = k := by omega
          have hd1 : decide ((i : Int) < (i : Int)) = false := by simp
          have hd2 : decide (i < i) = false := by simp
          have HB2 := Lib.hid hb
          clear hlt hb
          go_wp2_with fail
          go_ret
          exact ⟨rfl, HB2.out⟩
end Go.Proofs.Ytiaflhlfodcbjaa
