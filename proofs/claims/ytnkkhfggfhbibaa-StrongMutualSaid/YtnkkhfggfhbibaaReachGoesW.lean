/- The walk of the law ReachGoes. -/
import Derived.Test.YtnkkhfggfhbibaaReach
namespace Go.Proofs.Ytnkkhfggfhbibaa
open Go.RowKit
theorem own_bool {w : World} {B g N x : Nat} {s : List Bool} {b : Bool} (h : w.ownsRow B 4 1 (.slice (some ⟨g, 0, none⟩) N N) N (bls s)) (hx : x < N) (hb : s[x]? = some b) : w.cell? ⟨g, x, none⟩ = some (.bool b) := by
  rw [h.cellAt x (by omega), bls_at hb]
open Classical in
theorem reach_cell {w : World} {B g N x v : Nat} {E : List Eg} (h : w.ownsRow B 4 1 (.slice (some ⟨g, 0, none⟩) N N) N (bls (reachL N E v))) (hx : x < N) : (Rch E v x → w.cell? ⟨g, x, none⟩ = some (.bool true)) ∧ (¬ Rch E v x → w.cell? ⟨g, x, none⟩ = some (.bool false)) := by
  refine ⟨fun hr => ?_, fun hr => ?_⟩
  · exact own_bool h hx ((reachL_at hx).2 hr)
  · refine own_bool h hx ?_
    rw [reachL_get hx, decide_eq_false hr]
set_option maxHeartbeats 8000000 in
set_option maxRecDepth 100000 in
theorem reachGoes_walk (w : World) (a0 : Int) (ha0 : -9223372036854775808 ≤ a0) (ha1 : a0 ≤ 9223372036854775807) (v1 : Value) (l1 : List (List Int)) (h1 : IsR 3 w v1 l1) (a2 : Int) (ha2 : -9223372036854775808 ≤ a2) (ha3 : a2 ≤ 9223372036854775807) :
    Calls Try.prog 3 #[.int .i64 a0, v1, .int .i64 a2] w fun e w' => e = .returned (.bool true) ∧ Below w.heap.size w w' := by
  obtain ⟨p1, c1, rfl⟩ := h1.val
  have HM := Lib.hid (made_ok a0 p1 c1 _ l1 8 w ha0 ha1 h1 (by omega) (by omega))
  have hpk := pickN_lt a0 (m := 8) (by decide)
  clear h1 ha0 ha1
  obtain ⟨N, hN⟩ : ∃ N, N = 1 + pickN a0 8 := ⟨_, rfl⟩
  rw [← hN] at HM
  have hN200 : N ≤ 200 := by omega
  have hN1 : 1 ≤ N := by omega
  have hG := Lib.hid (edgesL_in N l1 (by omega))
  have hn10 := edgesL_len N l1
  clear hN hpk
  generalize edgesL N l1 = E at *
  obtain ⟨n, hn⟩ : ∃ n, n = E.length := ⟨_, rfl⟩
  rw [← hn] at HM hn10
  have HN := Lib.hid hn
  clear hn
  have HPV := Lib.hid (fun W => picked_i a2 (N : Int) N W rfl ha2 ha3 hN1 (by omega))
  have hV := pickN_lt a2 hN1
  generalize pickN a2 N = V at *
  clear ha2 ha3
  go_enter Try.func3, Try.ntmps3
  go_wp2_with fail
  refine HM.out.mono ?_; rintro e w1 ⟨q1, d1, rfl, ho1, hb1⟩
  have HS1 := Lib.hid (Sl.of_own ho1)
  have hz1 := hb1.size
  clear ho1
  go_wp2_with (go_at_call 14; refine (HPV.out _).mono ?_; rintro e w' ⟨rfl, rfl⟩)
  refine (reachP_ok N n d1 V q1 E _ (HS1.out.later (alloc_below w1 _)) hG.out hN200 (by omega) hV).mono ?_; rintro e w2 ⟨ga, rfl, ho2, hb2⟩
  obtain ⟨b12, X7, hz2⟩ := boxed (cs := [.int .i64 (N : Int), .slice q1 n d1]) hb2
  have HX7 := Lib.hid X7
  have HA := Lib.hid ho2
  have HS2 := Lib.hid (HS1.out.later b12)
  have hbw := hb1.trans (b12.mono hz1)
  have hlen := HS2.out.elen.2
  obtain ⟨hnd, hd63⟩ := hlen
  obtain ⟨hy0, hy1, _, _⟩ := X7.two
  have hcV := (reach_cell HA.out hV).1 .here
  have hV0 : (0 : Int) ≤ (V : Int) := by omega
  have hVN : (V : Int) < (N : Int) := by omega
  have he1 : ((N : Int) != (N : Int)) = false := by simp
  clear ho2 X7 hb1 b12 hb2
  go_wp2_with fail
  clear hcV hV0 hVN he1
  go_loopg [11] n (fun gk v11 wr => ∃ i : Nat, v11 = .int .i64 (i : Int) ∧ i + gk = n ∧ w2 = wr)
  case atStart => exact ⟨0, rfl, by omega, rfl⟩
  case round =>
    obtain ⟨i, rfl, hgi, rfl⟩ := hrel
    have HGI := Lib.hid hgi
    have hi : i ≤ n := by omega
    clear hgi
    by_cases hil : i < n
    · have hil2 : i < E.length := by have := HN.out; omega
      have hmem := List.getElem_mem hil2
      have hin := hG.out _ hmem
      obtain ⟨b, off, rfl, hc0, hc1, hc2⟩ := HS2.out.edge hil2
      generalize E[i] = x at hin hmem hc0 hc1 hc2
      obtain ⟨x1, x2, x3⟩ := x
      dsimp only at hin hc0 hc1 hc2
      obtain ⟨hx1, hx2, _⟩ := hin
      have hr1 := reach_cell HA.out hx1
      have hr2 := reach_cell HA.out hx2
      have hon := fun (h : Rch E V x1) => Rch.on h hmem
      have HR1 := Lib.hid hr1
      have HR2 := Lib.hid hr2
      have HON := Lib.hid hon
      clear hr1 hr2 hon hmem
      have hi0 : (0 : Int) ≤ (i : Int) := by omega
      have hin' : (i : Int) < (n : Int) := by omega
      have hd3' : decide ((i : Int) < (n : Int)) = true := by simp; omega
      have hd4' : decide (i < n) = true := by simp; omega
      have hx10 : (0 : Int) ≤ (x1 : Int) := by omega
      have hx1N : (x1 : Int) < (N : Int) := by omega
      have hx20 : (0 : Int) ≤ (x2 : Int) := by omega
      have hx2N : (x2 : Int) < (N : Int) := by omega
      by_cases hR : Rch E V x1
      · have hca := HR1.out.1 hR
        have hcb := HR2.out.1 (HON.out hR)
        clear hR
        go_wp2_with fail
        go_roundg (n - (i + 1))
        case measure => have := HGI.out; omega
        case rel => exact ⟨i + 1, by go_num, by omega, rfl⟩
      · have hca := HR1.out.2 hR
        clear hR
        go_wp2_with fail
        go_roundg (n - (i + 1))
        case measure => have := HGI.out; omega
        case rel => exact ⟨i + 1, by go_num, by omega, rfl⟩
    · have hd3' : decide ((i : Int) < (n : Int)) = false := by simp; omega
      have hd4' : decide (i < n) = false := by simp; omega
      go_wp2_with fail
      clear hy0 hy1 hd3' hd4' hil
      go_loopg [12, 13, 14, 15] N (fun gk v12 v13 v14 v15 wr => ∃ u : Nat, v12 = .int .i64 (u : Int) ∧ u + gk = N ∧ Below w2.heap.size w2 wr)
      case atStart => exact ⟨0, rfl, by omega, Below.refl _ _⟩
      case round =>
        obtain ⟨u, rfl, hgu, hb⟩ := hrel
        have HGU := Lib.hid hgu
        have hu : u ≤ N := by omega
        clear hgu
        obtain ⟨hy0, hy1, _, _⟩ := (HX7.out.next hb).two
        by_cases hul : u < N
        · have hu0 : (0 : Int) ≤ (u : Int) := by omega
          have huN : (u : Int) < (N : Int) := by omega
          have hd5' : decide ((u : Int) < (N : Int)) = true := by simp; omega
          have hd6' : decide (u < N) = true := by simp; omega
          go_wp2_with fail
          clear hy0 hy1
          refine (reachP_ok N n d1 u q1 E wr (HS2.out.later hb) hG.out hN200 (by omega) hul).mono ?_; rintro e w5 ⟨gb, rfl, ho5, hb5⟩
          have hb25 := hb.trans (hb5.mono hb.size)
          obtain ⟨hy0, hy1, _, _⟩ := (HX7.out.next hb25).two
          have HB := Lib.hid ho5
          have HA5 := Lib.hid (own_later HA.out hb25)
          have he1 : ((N : Int) != (N : Int)) = false := by simp
          clear ho5
          go_wp2_with fail
          clear hy0 hy1 he1 hd5' hd6'
          obtain ⟨wo, rfl⟩ : ∃ wo : World, wo = wr := ⟨_, rfl⟩
          go_loopg [15] N (fun gk v15 wr => ∃ z : Nat, v15 = .int .i64 (z : Int) ∧ z + gk = N ∧ w5 = wr)
          case atStart => exact ⟨0, rfl, by omega, rfl⟩
          case round =>
            obtain ⟨z, rfl, hgz, rfl⟩ := hrel
            have HGZ := Lib.hid hgz
            have hz : z ≤ N := by omega
            clear hgz
            obtain ⟨hy0, hy1, _, _⟩ := (HX7.out.next hb25).two
            by_cases hzl : z < N
            · have HU := Lib.hid (reach_cell HA5.out hul)
              have HZ := Lib.hid (reach_cell HB.out hzl)
              have HW := Lib.hid (reach_cell HA5.out hzl)
              have hz0 : (0 : Int) ≤ (z : Int) := by omega
              have hzN : (z : Int) < (N : Int) := by omega
              have hd5' : decide ((z : Int) < (N : Int)) = true := by simp; omega
              have hd6' : decide (z < N) = true := by simp; omega
              by_cases hR : Rch E V u
              · have hca := HU.out.1 hR
                by_cases hR2 : Rch E u z
                · have hcb := HZ.out.1 hR2
                  have hcc := HW.out.1 (hR.trans hR2)
                  clear hR hR2
                  go_wp2_with fail
                  go_roundg (N - (z + 1))
                  case measure => have := HGZ.out; omega
                  case rel => exact ⟨z + 1, by go_num, by omega, rfl⟩
                · have hcb := HZ.out.2 hR2
                  clear hR hR2
                  go_wp2_with fail
                  go_roundg (N - (z + 1))
                  case measure => have := HGZ.out; omega
                  case rel => exact ⟨z + 1, by go_num, by omega, rfl⟩
              · have hca := HU.out.2 hR
                clear hR
                go_wp2_with fail
                go_roundg (N - (z + 1))
                case measure => have := HGZ.out; omega
                case rel => exact ⟨z + 1, by go_num, by omega, rfl⟩
            · have hd5' : decide ((z : Int) < (N : Int)) = false := by simp; omega
              have hd6' : decide (z < N) = false := by simp; omega
              go_wp2_with fail
              go_roundg (N - (u + 1))
              case measure => have := HGU.out; omega
              case rel => exact ⟨u + 1, by go_num, by omega, hb25⟩
        · have hd5' : decide ((u : Int) < (N : Int)) = false := by simp; omega
          have hd6' : decide (u < N) = false := by simp; omega
          go_wp2_with fail
          go_ret
          exact ⟨rfl, hbw.trans (hb.mono (by have := hbw.size; omega))⟩
end Go.Proofs.Ytnkkhfggfhbibaa
