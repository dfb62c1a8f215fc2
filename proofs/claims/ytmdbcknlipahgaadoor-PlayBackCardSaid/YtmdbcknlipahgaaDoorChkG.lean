/- The walk of graph.Check at any graph. -/
import Derived.Test.YtmdbcknlipahgaaDoorPSheet
import Derived.Test.YtmdbcknlipahgaaDoorBoxed
import Derived.Test.YtmdbcknlipahgaaDoorBx5
namespace Go.Proofs.YtmdbcknlipahgaaDoor
open Go.RowKit
/-- edges in raw numbers as cells -/
def ges (E : List Ge) : List Value := E.flatMap fun e => [Value.int .i64 e.1, Value.int .i64 e.2.1, Value.int .i64 e.2.2]
theorem ges_len : ∀ (l : List Ge), (ges l).length = l.length * 3
  | [] => rfl
  | m :: l => by
    have := ges_len l
    show ([Value.int .i64 m.1, Value.int .i64 m.2.1, Value.int .i64 m.2.2] ++ ges l).length = _
    rw [List.length_append, this, List.length_cons]; simp; omega
theorem ges_at {l : List Ge} {i : Nat} (h : i < l.length) : (ges l)[i * 3]? = some (.int .i64 l[i].1) ∧ (ges l)[i * 3 + 1]? = some (.int .i64 l[i].2.1) ∧ (ges l)[i * 3 + 2]? = some (.int .i64 l[i].2.2) := by
  induction l generalizing i with
  | nil => simp at h
  | cons a l ih =>
    have h2 : ges (a :: l) = [Value.int .i64 a.1, Value.int .i64 a.2.1, Value.int .i64 a.2.2] ++ ges l := rfl
    cases i with
    | zero => rw [h2]; exact ⟨rfl, rfl, rfl⟩
    | succ i =>
      have := ih (i := i) (by simpa using h)
      rw [h2, List.getElem?_append_right (by simp; omega), List.getElem?_append_right (by simp; omega), List.getElem?_append_right (by simp; omega)]
      simp only [List.length_cons, List.length_nil, List.getElem_cons_succ]
      rw [show (i + 1) * 3 - (0 + 1 + 1 + 1) = i * 3 by omega, show (i + 1) * 3 + 1 - (0 + 1 + 1 + 1) = i * 3 + 1 by omega, show (i + 1) * 3 + 2 - (0 + 1 + 1 + 1) = i * 3 + 2 by omega]
      exact this
theorem ges_snoc (l : List Ge) (m : Ge) : ges (l ++ [m]) = ges l ++ [Value.int .i64 m.1, Value.int .i64 m.2.1, Value.int .i64 m.2.2] := by simp [ges]
theorem ges_one (l : List Ge) : ∀ u ∈ ges l, u.oneCell' = true := by
  intro u hu
  unfold ges at hu
  obtain ⟨m, _, h⟩ := List.mem_flatMap.1 hu
  simp at h
  rcases h with rfl | rfl | rfl <;> rfl
theorem Sl.ge {w : World} {p : Option Addr} {c n : Nat} {l : List Ge} (h : Sl w 3 (.slice p n c) n (ges l)) {i : Nat} (hi : i < l.length) : ∃ b off, p = some ⟨b, off, none⟩ ∧ w.cell? ⟨b, off + i * 3, none⟩ = some (.int .i64 l[i].1) ∧ w.cell? ⟨b, off + i * 3 + 1, none⟩ = some (.int .i64 l[i].2.1) ∧ w.cell? ⟨b, off + i * 3 + 2, none⟩ = some (.int .i64 l[i].2.2) := by
  obtain ⟨h1, h2, h3⟩ := ges_at hi
  obtain ⟨b, off, rfl, hc1⟩ := h.get h1
  obtain ⟨b', off', he, hc2⟩ := h.get h2
  cases he
  obtain ⟨b', off', he, hc3⟩ := h.get h3
  cases he
  exact ⟨b, off, rfl, hc1, hc2, hc3⟩
theorem Sl.glen {w : World} {p : Option Addr} {c n : Nat} {l : List Ge} (h : Sl w 3 (.slice p n c) n (ges l)) : n = l.length ∧ n ≤ c ∧ c ≤ 9223372036854775807 := by
  obtain ⟨p', c', e, h1, h2, h3, _⟩ := h
  cases e
  rw [ges_len] at h3
  exact ⟨by omega, h1, by unfold maxLen at h2; omega⟩
set_option maxHeartbeats 1000000 in
set_option maxRecDepth 100000 in
theorem inside_ok (v N : Int) (g : Nat) (w : World) (h : w.cell? ⟨g, 0, none⟩ = some (.int .i64 N)) :
    Calls Tryd.prog 33 #[.int .i64 v, .pointer (some ⟨g, 0, none⟩)] w fun e w' => e = .returned (.bool (decide (0 ≤ v ∧ v < N))) ∧ w = w' := by
  by_cases h1 : 0 ≤ v
  · have hd : decide (v ≥ 0) = true := by simp; omega
    have hd2 : decide (0 ≤ v) = true := by simp; omega
    by_cases h2 : v < N
    · have hd3 : decide (v < N) = true := by simp; omega
      have hr : decide (0 ≤ v ∧ v < N) = true := by simp; omega
      rw [hr]
      clear h1 h2 hr
      go_enter Tryd.func33, Tryd.ntmps33
      go_wp2_with fail
      go_ret
      exact ⟨rfl, rfl⟩
    · have hd3 : decide (v < N) = false := by simp; omega
      have hr : decide (0 ≤ v ∧ v < N) = false := by simp; omega
      rw [hr]
      clear h1 h2 hr
      go_enter Tryd.func33, Tryd.ntmps33
      go_wp2_with fail
      go_ret
      exact ⟨rfl, rfl⟩
  · have hd : decide (v ≥ 0) = false := by simp; omega
    have hd2 : decide (0 ≤ v) = false := by simp; omega
    have hr : decide (0 ≤ v ∧ v < N) = false := by simp; omega
    rw [hr]
    clear h1 hr
    go_enter Tryd.func33, Tryd.ntmps33
    go_wp2_with fail
    go_ret
    exact ⟨rfl, rfl⟩
/-- is an edge right? -/
def gokB (N : Int) (e : Ge) : Bool := decide (0 ≤ e.1 ∧ e.1 < N ∧ 0 ≤ e.2.1 ∧ e.2.1 < N ∧ 0 ≤ e.2.2 ∧ e.2.2 ≤ 1099511627776)
theorem chkF_eq (N : Int) (E : List Ge) : chkF N E = if N < 0 ∨ 200 < N ∨ 600 < E.length then 1 else if E.all (gokB N) then 0 else 2 := rfl
set_option maxHeartbeats 4000000 in
set_option maxRecDepth 100000 in
theorem chkG_ok (N : Int) (hN1 : -9223372036854775808 ≤ N) (hN2 : N ≤ 9223372036854775807) (p : Option Addr) (n c : Nat) (E : List Ge) (w : World) (h : Sl w 3 (.slice p n c) n (ges E)) :
    Calls Tryd.prog 11 #[.agg #[.int .i64 N, .slice p n c]] w fun e w' => e = .returned (.int .i64 (chkF N E)) ∧ Below w.heap.size w w' := by
  obtain ⟨hn, hnc, hc63⟩ := h.glen
  obtain ⟨b1, B1, z1⟩ := boxed0 w [.int .i64 N, .slice p n c] 24
  have HL := Lib.hid h
  have HN := Lib.hid hn
  clear h hn
  generalize hw1 : (w.alloc (.cells #[.int .i64 N, .slice p n c] 24)) = w1 at *
  have HX := Lib.hid B1
  have HB := Lib.hid b1
  obtain ⟨hx0, hx1, _, _⟩ := HX.out.two
  clear b1 B1 z1
  by_cases hbad : N < 0 ∨ 200 < N ∨ 600 < n
  · have hr : chkF N E = 1 := by rw [chkF_eq, if_pos (by rw [← HN.out]; exact hbad)]
    rw [hr]
    clear hr
    by_cases h1 : N < 0
    · have hd1 : decide (N < 0) = true := by simp; omega
      clear hbad h1
      go_enter Tryd.func11, Tryd.ntmps11
      go_wp2_with fail
      go_ret
      exact ⟨rfl, HB.out⟩
    · have hd1 : decide (N < 0) = false := by simp; omega
      by_cases h2 : 200 < N
      · have hd2 : decide (200 < N) = true := by simp; omega
        clear hbad h1 h2
        go_enter Tryd.func11, Tryd.ntmps11
        go_wp2_with fail
        go_ret
        exact ⟨rfl, HB.out⟩
      · have hd2 : decide (200 < N) = false := by simp; omega
        have hd3 : decide ((600 : Int) < (n : Int)) = true := by simp; omega
        have hd4 : decide (600 < n) = true := by simp; omega
        clear hbad h1 h2
        go_enter Tryd.func11, Tryd.ntmps11
        go_wp2_with fail
        go_ret
        exact ⟨rfl, HB.out⟩
  · have HR := Lib.hid (show chkF N E = if E.all (gokB N) then 0 else 2 from by rw [chkF_eq, if_neg (by rw [← HN.out]; exact hbad)])
    have hd1 : decide (N < 0) = false := by simp; omega
    have hd2 : decide (200 < N) = false := by simp; omega
    have hd3 : decide ((600 : Int) < (n : Int)) = false := by simp; omega
    have hd4 : decide (600 < n) = false := by simp; omega
    have hn6 : n ≤ 600 := by omega
    clear hbad
    go_enter Tryd.func11, Tryd.ntmps11
    go_wp2_with fail
    clear hw1 hd1 hd2 hd3 hd4
    obtain ⟨g, hg⟩ : ∃ g, g = w.heap.size := ⟨_, rfl⟩
    rw [← hg] at HX hx0 hx1 ⊢
    clear hg
    go_loopg [24] n (fun gk v24 wr => ∃ k : Nat, v24 = .int .i64 (k : Int) ∧ k + gk = n ∧ Hid ((E.take k).all (gokB N) = true) ∧ Hid (Below w1.heap.size w1 wr))
    case atStart => exact ⟨0, rfl, by omega, Lib.hid rfl, Lib.hid (Below.refl _ _)⟩
    case round =>
      clear hx0 hx1
      obtain ⟨k, rfl, hgk, HT, HBB⟩ := hrel
      have HGK := Lib.hid hgk
      have hk : k ≤ n := by omega
      clear hgk
      have hx0 := (HX.out.next HBB.out).two.1
      by_cases hlt : k < n
      · have hkl : k < E.length := by have := HN.out; omega
        have HWB := Lib.hid (show Below w.heap.size w wr from HB.out.trans (HBB.out.mono HB.out.size))
        obtain ⟨b, off, rfl, hc0, hc1, hc2⟩ := (HL.out.later HWB.out).ge hkl
        have HTK := Lib.hid (show (E.take (k + 1)).all (gokB N) = gokB N E[k] from by rw [List.take_succ_eq_append_getElem hkl, List.all_append, HT.out]; simp)
        have HNO := Lib.hid (show gokB N E[k] = false → E.all (gokB N) = false from fun hf => by
          rw [List.all_eq_false]
          exact ⟨_, List.getElem_mem hkl, by rw [hf]; simp⟩)
        generalize E[k] = x at *
        obtain ⟨x1, x2, x3⟩ := x
        dsimp only at hc0 hc1 hc2
        have hk0 : (0 : Int) ≤ (k : Int) := by omega
        have hkn : (k : Int) < (n : Int) := by omega
        have hd1 : decide ((k : Int) < (n : Int)) = true := by simp; omega
        have hd2 : decide (k < n) = true := by simp; omega
        have HLT := Lib.hid hlt
        clear hlt hkl
        go_upto_region 7 with fail
        obtain ⟨b8, B8, z8⟩ := boxed0 wr [.int .i64 x1, .int .i64 x2, .int .i64 x3] 84
        obtain ⟨w8, hw8⟩ : ∃ w8 : World, w8 = wr.alloc (.cells #[.int .i64 x1, .int .i64 x2, .int .i64 x3] 84) := ⟨_, rfl⟩
        obtain ⟨g8, hg8⟩ : ∃ g8, g8 = wr.heap.size := ⟨_, rfl⟩
        have e8 : (wr.alloc (.cells (List.toArray [Value.int .i64 x1, .int .i64 x2, .int .i64 x3]) 84)) = w8 := hw8.symm
        rw [e8] at b8 B8 z8
        rw [← hg8] at B8
        rw [← hw8, ← hg8]
        have HB8 := Lib.hid (HBB.out.trans (b8.mono HBB.out.size))
        have hx0 := (HX.out.next HB8.out).two.1
        obtain ⟨hy0, hy1, hy2, _⟩ := B8.three
        have HI1 := Lib.hid (inside_ok x1 N g w8 hx0)
        have HI2 := Lib.hid (inside_ok x2 N g w8 hx0)
        clear hw8 hg8 e8 b8 B8 z8 hc0 hc1 hc2 hd1 hd2
        obtain ⟨ok, hok⟩ : ∃ ok, ok = gokB N (x1, x2, x3) := ⟨_, rfl⟩
        rw [← hok] at HTK HNO
        have HOK := Lib.hid hok
        clear hok
        go_cut [49] (fun s49 wx => s49 = .bool (!ok) ∧ w8 = wx)
        case first =>
          by_cases h1 : 0 ≤ x1 ∧ x1 < N
          · have e1 : decide (0 ≤ x1 ∧ x1 < N) = true := decide_eq_true h1
            rw [e1] at HI1
            by_cases h2 : 0 ≤ x2 ∧ x2 < N
            · have e2 : decide (0 ≤ x2 ∧ x2 < N) = true := decide_eq_true h2
              rw [e2] at HI2
              by_cases h3 : x3 < 0
              · have hd5 : decide (x3 < 0) = true := by simp; omega
                have he : ok = false := by rw [HOK.out]; unfold gokB; simp; omega
                subst he
                clear h1 h2 h3 e1 e2
                go_wp2_with fail
                refine HI1.out.mono ?_; rintro e w' ⟨rfl, rfl⟩
                go_wp2_with fail
                refine HI2.out.mono ?_; rintro e w' ⟨rfl, rfl⟩
                go_wp2_with fail
                go_meet
                case rel => exact ⟨rfl, rfl⟩
              · have hd5 : decide (x3 < 0) = false := by simp; omega
                by_cases h4 : 1099511627776 < x3
                · have hd6 : decide (1099511627776 < x3) = true := by simp; omega
                  have he : ok = false := by rw [HOK.out]; unfold gokB; simp; omega
                  subst he
                  clear h1 h2 h3 h4 e1 e2
                  go_wp2_with fail
                  refine HI1.out.mono ?_; rintro e w' ⟨rfl, rfl⟩
                  go_wp2_with fail
                  refine HI2.out.mono ?_; rintro e w' ⟨rfl, rfl⟩
                  go_wp2_with fail
                  go_meet
                  case rel => exact ⟨rfl, rfl⟩
                · have hd6 : decide (1099511627776 < x3) = false := by simp; omega
                  have he : ok = true := by rw [HOK.out]; unfold gokB; simp; omega
                  subst he
                  clear h1 h2 h3 h4 e1 e2
                  go_wp2_with fail
                  refine HI1.out.mono ?_; rintro e w' ⟨rfl, rfl⟩
                  go_wp2_with fail
                  refine HI2.out.mono ?_; rintro e w' ⟨rfl, rfl⟩
                  go_wp2_with fail
                  go_meet
                  case rel => exact ⟨rfl, rfl⟩
            · have e2 : decide (0 ≤ x2 ∧ x2 < N) = false := decide_eq_false h2
              rw [e2] at HI2
              have he : ok = false := by rw [HOK.out]; unfold gokB; simp; omega
              subst he
              clear h1 h2 e1 e2
              go_wp2_with fail
              refine HI1.out.mono ?_; rintro e w' ⟨rfl, rfl⟩
              go_wp2_with fail
              refine HI2.out.mono ?_; rintro e w' ⟨rfl, rfl⟩
              go_wp2_with fail
              go_meet
              case rel => exact ⟨rfl, rfl⟩
          · have e1 : decide (0 ≤ x1 ∧ x1 < N) = false := decide_eq_false h1
            rw [e1] at HI1
            have he : ok = false := by rw [HOK.out]; unfold gokB; simp; omega
            subst he
            clear h1 e1
            go_wp2_with fail
            refine HI1.out.mono ?_; rintro e w' ⟨rfl, rfl⟩
            go_wp2_with fail
            go_meet
            case rel => exact ⟨rfl, rfl⟩
        case rest =>
        obtain ⟨rfl, rfl⟩ := hcut
        cases ok with
        | true =>
          go_wp2_with fail
          go_roundg (n - (k + 1))
          case measure => have := HGK.out; have := HLT.out; omega
          case rel => exact ⟨k + 1, by go_num, by have := HLT.out; omega, HTK, HB8⟩
        | false =>
          have hr : chkF N E = 2 := by rw [HR.out, HNO.out rfl]; rfl
          have HRR := Lib.hid hr
          clear hr
          go_wp2_with fail
          go_ret
          exact ⟨by rw [HRR.out]; rfl, HB.out.trans (HB8.out.mono HB.out.size)⟩
      · obtain rfl : k = n := by omega
        have hd1 : decide ((k : Int) < (k : Int)) = false := by simp
        have hd2 : decide (k < k) = false := by simp
        have hr : chkF N E = 0 := by
          have h1 := HT.out
          rw [List.take_of_length_le (by rw [← HN.out]; exact Nat.le_refl _)] at h1
          rw [HR.out, h1]; rfl
        have HRR := Lib.hid hr
        clear hr hlt
        go_wp2_with fail
        go_ret
        exact ⟨by rw [HRR.out]; rfl, HB.out.trans (HBB.out.mono HB.out.size)⟩
end Go.Proofs.YtmdbcknlipahgaaDoor
