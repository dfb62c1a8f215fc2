/- The walk of the law PlayBack. -/
import Derived.Test.YtmdbcknlipahgaaDoorPlayFixedW
import Derived.Test.YtmdbcknlipahgaaDoorMoveOf
import Derived.Test.YtmdbcknlipahgaaDoorRead
import Derived.BigQuiet
namespace Go.Proofs.YtmdbcknlipahgaaDoor
open Go.RowKit
/-- the moves of these trips -/
def mvsOf (keep : Int) (l : List (List Int)) : List Mv := l.map fun r => mvOf (r.getD 0 0) (r.getD 1 0) keep
theorem mvsOf_snoc (keep : Int) (l : List (List Int)) {k : Nat} (hk : k < l.length) {a b : Int} (hr : l[k] = [a, b]) : mvsOf keep (l.take (k + 1)) = mvsOf keep (l.take k) ++ [mvOf a b keep] := by
  unfold mvsOf
  rw [List.take_succ_eq_append_getElem hk, List.map_append, hr]; rfl
theorem mvsOf_ok (keep : Int) (l : List (List Int)) : ∀ m ∈ mvsOf keep l, MvOk m := by
  intro m hm
  obtain ⟨r, _, rfl⟩ := List.mem_map.1 hm
  exact mvOf_ok _ _ _
theorem ges_snoc3 (l : List Mv) (m : Mv) : ges (l ++ [m]) = ges l ++ [Value.int .i64 m.1, .int .i64 m.2.1, .int .i64 m.2.2] := by unfold ges; simp
/-- what is shown can be read -/
theorem allL_show {l : List Mv} (h : ∀ m ∈ l, OkM m) : allL (showM l) := by
  intro x hx
  rw [lines_moves l h] at hx
  obtain ⟨m, hm, rfl⟩ := List.mem_map.1 hx
  exact good_line (h m hm)
theorem mread_show (ms : List Mv) (hok : ∀ m ∈ ms, MvOk m) (hn : ms.length ≤ 100000) (w : World) (ht : Tabs w) (hf : FormsAt w) :
    Calls Tryd.prog 16 #[.string (bs (showM ms))] w fun e w' => (∃ p n c, e = .returned (.tuple #[.slice p n c, .int .i64 0]) ∧ n = ms.length ∧ w'.ownsRow w.heap.size 37 3 (.slice p n c) n (ges ms)) ∧ Below w.heap.size w w' :=
  (mread_ok (bs (showM ms)) w ht hf).mono (by
    rintro e w' ⟨hok2, hb⟩
    refine ⟨?_, hb⟩
    have hok3 : ∀ m ∈ ms, OkM m := fun m hm => (hok m hm).2
    have h1 : (bs (showM ms)).size ≤ 5000000 := by rw [bs_sz]; have := show_len ms hok3; omega
    have h2 : allL (bs (showM ms)).data.toList := by rw [bs_list]; exact allL_show hok3
    have h3 : (linesL (bs (showM ms)).data.toList).length ≤ 100000 := by rw [bs_list, lines_moves ms hok3, List.length_map]; exact hn
    rcases hok2 with ⟨_, hno⟩ | ⟨_, _, _, p, n, c, rfl, hn2, hrow⟩
    · exact absurd ⟨h1, h2, h3⟩ hno
    · rw [bs_list, rdM_show hok3] at hn2 hrow
      exact ⟨p, n, c, rfl, hn2, hrow⟩)
set_option maxHeartbeats 4000000 in
set_option maxRecDepth 100000 in
theorem playBack_walk (w : World) (v1 : Value) (l : List (List Int)) (h1 : IsR 2 w v1 l) (keep : Int) (lo : -9223372036854775808 ≤ keep) (hi : keep ≤ 9223372036854775807) (ht : Tabs w) (hf : FormsAt w) :
    Calls Tryd.prog 5 #[v1, .int .i64 keep] w fun e w' => e = .returned (.bool true) ∧ Below w.heap.size w w' := by
  obtain ⟨p, c, rfl⟩ := h1.val
  obtain ⟨_, hnc, hc63⟩ := h1.lens
  obtain ⟨n, hn⟩ : ∃ n, n = l.length := ⟨_, rfl⟩
  rw [← hn] at h1 hnc ⊢
  have HL := Lib.hid h1
  have HN := Lib.hid hn
  have HT := Lib.hid ht
  have HF := Lib.hid hf
  clear h1 hn ht hf
  obtain ⟨n', hn'⟩ : ∃ n', n' = min n 100 := ⟨_, rfl⟩
  have hnn : n' ≤ n ∧ n' ≤ 100 ∧ (n' = n ∨ n' = 100) := by omega
  clear hn'
  go_enter Tryd.func5, Tryd.ntmps5
  go_wp2_with fail
  go_loopg [5, 6] n' (fun gk v5 v6 wr => ∃ (k : Nat) (p' : Option Addr) (c' : Nat), v6 = .int .i64 (k : Int) ∧ k + gk = n' ∧ v5 = .slice p' k c' ∧ Hid (wr.ownsRow w.heap.size 37 3 (.slice p' k c') k (ges (mvsOf keep (l.take k)))) ∧ Hid (Below w.heap.size w wr))
  case atStart => exact ⟨0, none, 0, rfl, by omega, rfl, Lib.hid (World.ownsRow_nil _ _ _ _), Lib.hid (Below.refl _ _)⟩
  case round =>
    obtain ⟨k, p', c', rfl, hgk, rfl, HO, HB⟩ := hrel
    have HGK := Lib.hid hgk
    have hk : k ≤ n' := by omega
    clear hgk
    by_cases hlt : k < n'
    · have hkl : k < l.length := by have := HN.out; omega
      have hr := (HL.out.2 l[k] (List.getElem_mem hkl))
      obtain ⟨K, A, he⟩ : ∃ K A, l[k] = [K, A] := by
        have := hr.1
        match hlk : l[k], this with
        | [a, b], _ => exact ⟨a, b, rfl⟩
      have hbd := hr.2
      rw [he] at hbd
      have hK := hbd K (by simp)
      have hA := hbd A (by simp)
      obtain ⟨bb, off, rfl, hc0⟩ := (HL.out.later HB.out).get (i := k) hkl (j := 0) (x := K) (by rw [he]; rfl)
      obtain ⟨bb', off', he', hc1⟩ := (HL.out.later HB.out).get (i := k) hkl (j := 1) (x := A) (by rw [he]; rfl)
      cases he'
      rw [Nat.add_zero] at hc0
      rw [← Nat.add_assoc] at hc1
      have HTK := Lib.hid (mvsOf_snoc keep l hkl he)
      have HMO := Lib.hid (moveOf_ok K A keep wr hK hA ⟨lo, hi⟩)
      generalize mvOf K A keep = m at *
      obtain ⟨m1, m2, m3⟩ := m
      dsimp only at HMO
      have HTG := Lib.hid (show ges (mvsOf keep (l.take (k + 1))) = ges (mvsOf keep (l.take k)) ++ [Value.int .i64 m1, .int .i64 m2, .int .i64 m3] from by rw [HTK.out]; exact ges_snoc3 _ _)
      have hk0 : (0 : Int) ≤ (k : Int) := by omega
      have hkn : (k : Int) < (n : Int) := by omega
      have hd1 : decide ((k : Int) < (n : Int)) = true := by simp; omega
      have hd2 : decide (k < n) = true := by simp; omega
      have hd3 : decide ((k : Int) < 100) = true := by simp; omega
      have hd4 : decide (k < 100) = true := by simp; omega
      have HLT := Lib.hid hlt
      have hk100 : k ≤ 100 := by omega
      clear hlt hkl hr he hbd hK hA
      go_wp2_with fail
      refine HMO.out.mono ?_; rintro e w2 ⟨rfl, hb2⟩
      have HB2 := Lib.hid (HB.out.trans (hb2.mono HB.out.size))
      have HO2 := Lib.hid (own_later HO.out hb2)
      have HBA := Lib.hid (HB2.out.alloc HB2.out.size (.cells #[.int .i64 m1, .int .i64 m2, .int .i64 m3] 37))
      have HOA := Lib.hid (HO2.out.alloc (.cells #[.int .i64 m1, .int .i64 m2, .int .i64 m3] 37))
      clear hb2 HMO HB HO hc0 hc1
      go_wp2_with (at_builtin; go_loud (refine wp_app1h (w0 := w) rfl (.tmp 29) (.tmp 31) _ rfl w.heap.size 37 rfl inf_move rfl (by decide) rfl HOA.out (us := [.int .i64 m1, .int .i64 m2, .int .i64 m3]) rfl (by simp) rfl (by simp [Value.oneCell']) (by unfold maxLen; omega) (by omega) HBA.out HBA.out.size ?_); intro p3 c3 w3 hown3 hb3 hs3 hg3 hnb3; rw [← HTG.out] at hown3; have HB3 := Lib.hid hb3; have HO3 := Lib.hid hown3; clear hown3 hb3)
      go_roundg (n' - (k + 1))
      case measure => have := HGK.out; have := HLT.out; omega
      case rel => exact ⟨k + 1, p3, c3, by go_num, by have := HLT.out; omega, rfl, HO3, HB3⟩
    · obtain rfl : k = n' := by omega
      obtain ⟨ms, hms⟩ : ∃ ms, ms = mvsOf keep (l.take k) := ⟨_, rfl⟩
      have hok : ∀ m ∈ ms, MvOk m := by rw [hms]; exact mvsOf_ok _ _
      have hlen : ms.length = k := by rw [hms]; unfold mvsOf; rw [List.length_map, List.length_take]; have := HN.out; omega
      rw [← hms] at HO
      clear hms
      have hd1 : decide ((k : Int) < (n : Int)) = decide (k < n) := by simp
      have HSH := Lib.hid (mshow_ok p' k c' ms wr (Sl.of_own HO.out) hok (by omega) (HT.out.later HB.out) (HF.out.later HB.out))
      have HRD := Lib.hid (fun (W : World) (hW : Below w.heap.size w W) => mread_show ms hok (by omega) W (HT.out.later hW) (HF.out.later hW))
      generalize bs (showM ms) = tx at *
      have HLN := Lib.hid hlen
      have hk100 : k ≤ 100 := by omega
      clear hok hlen hlt hd1
      by_cases hkn : k < n
      · have hd2 : decide ((k : Int) < (n : Int)) = true := by simp; omega
        have hd3 : decide (k < n) = true := by simp; omega
        obtain rfl : k = 100 := by omega
        go_wp2_with fail
        refine HSH.out.mono ?_; rintro e w3 ⟨rfl, hb3⟩
        have HB3 := Lib.hid (HB.out.trans (hb3.mono HB.out.size))
        have HO3 := Lib.hid (own_later HO.out hb3)
        clear hb3 HB HO HSH
        go_wp2_with fail
        refine (HRD.out _ HB3.out).mono ?_; rintro e w4 ⟨⟨p4, n4, c4, rfl, hn4, hrow4⟩, hb4⟩
        have hn5 : 100 = n4 := by rw [hn4, HLN.out]
        subst hn5
        have HS1 := Lib.hid (Sl.of_own hrow4)
        have HS2 := Lib.hid (Sl.of_own (own_later HO3.out hb4))
        have HB4 := Lib.hid (HB3.out.trans (hb4.mono HB3.out.size))
        clear hn4 hrow4 hb4 HB3 HO3 HRD
        obtain ⟨wo, rfl⟩ : ∃ wo : World, wo = wr := ⟨_, rfl⟩
        go_wp2_with fail
        go_loopg [12] 100 (fun gk v12 wr => ∃ j : Nat, v12 = .int .i64 (j : Int) ∧ j + gk = 100 ∧ Hid (Below w4.heap.size w4 wr))
        case atStart => exact ⟨0, rfl, by omega, Lib.hid (Below.refl _ _)⟩
        case round =>
          obtain ⟨j, rfl, hgj, HBJ⟩ := hrel
          have HGJ := Lib.hid hgj
          have hj : j ≤ 100 := by omega
          clear hgj
          by_cases hjt : j < 100
          · have hjl : j < ms.length := by have := HLN.out; omega
            obtain ⟨b1, off1, rfl, ha0, ha1, ha2⟩ := (HS1.out.later HBJ.out).ge hjl
            obtain ⟨b2, off2, rfl, hb0, hb1, hb2⟩ := (HS2.out.later HBJ.out).ge hjl
            generalize ms[j] = x at *
            obtain ⟨x1, x2, x3⟩ := x
            dsimp only at ha0 ha1 ha2 hb0 hb1 hb2
            have hj0 : (0 : Int) ≤ (j : Int) := by omega
            have hjk : (j : Int) < (100 : Int) := by omega
            have hq1 : decide ((j : Int) < (100 : Int)) = true := decide_eq_true hjk
            have hq2 : decide (j < 100) = true := decide_eq_true hjt
            have HJT := Lib.hid hjt
            clear hjt hjl hj
            go_wp2_with fail
            go_quiet (fail)
            go_wp2_with fail
            go_roundg (100 - (j + 1))
            case measure => have := HGJ.out; have := HJT.out; omega
            case rel => exact ⟨j + 1, by go_num, by have := HJT.out; omega, Lib.hid (below_drewN HBJ.out _)⟩
          · have hj5 : 100 = j := by omega
            subst hj5
            go_wp2_with fail
            go_ret
            exact ⟨rfl, HB4.out.trans (HBJ.out.mono HB4.out.size)⟩
      · obtain rfl : k = n := by omega
        have hd2 : decide ((k : Int) < (k : Int)) = false := by simp
        have hd3 : decide (k < k) = false := by simp
        go_wp2_with fail
        refine HSH.out.mono ?_; rintro e w3 ⟨rfl, hb3⟩
        have HB3 := Lib.hid (HB.out.trans (hb3.mono HB.out.size))
        have HO3 := Lib.hid (own_later HO.out hb3)
        clear hb3 HB HO HSH
        go_wp2_with fail
        refine (HRD.out _ HB3.out).mono ?_; rintro e w4 ⟨⟨p4, n4, c4, rfl, hn4, hrow4⟩, hb4⟩
        have hn5 : k = n4 := by rw [hn4, HLN.out]
        subst hn5
        have HS1 := Lib.hid (Sl.of_own hrow4)
        have HS2 := Lib.hid (Sl.of_own (own_later HO3.out hb4))
        have HB4 := Lib.hid (HB3.out.trans (hb4.mono HB3.out.size))
        clear hn4 hrow4 hb4 HB3 HO3 HRD
        obtain ⟨wo, rfl⟩ : ∃ wo : World, wo = wr := ⟨_, rfl⟩
        go_wp2_with fail
        go_loopg [12] k (fun gk v12 wr => ∃ j : Nat, v12 = .int .i64 (j : Int) ∧ j + gk = k ∧ Hid (Below w4.heap.size w4 wr))
        case atStart => exact ⟨0, rfl, by omega, Lib.hid (Below.refl _ _)⟩
        case round =>
          obtain ⟨j, rfl, hgj, HBJ⟩ := hrel
          have HGJ := Lib.hid hgj
          have hj : j ≤ k := by omega
          clear hgj
          by_cases hjt : j < k
          · have hjl : j < ms.length := by have := HLN.out; omega
            obtain ⟨b1, off1, rfl, ha0, ha1, ha2⟩ := (HS1.out.later HBJ.out).ge hjl
            obtain ⟨b2, off2, rfl, hb0, hb1, hb2⟩ := (HS2.out.later HBJ.out).ge hjl
            generalize ms[j] = x at *
            obtain ⟨x1, x2, x3⟩ := x
            dsimp only at ha0 ha1 ha2 hb0 hb1 hb2
            have hj0 : (0 : Int) ≤ (j : Int) := by omega
            have hjk : (j : Int) < (k : Int) := by omega
            have hq1 : decide ((j : Int) < (k : Int)) = true := decide_eq_true hjk
            have hq2 : decide (j < k) = true := decide_eq_true hjt
            have HJT := Lib.hid hjt
            clear hjt hjl hj
            go_wp2_with fail
            go_quiet (fail)
            go_wp2_with fail
            go_roundg (k - (j + 1))
            case measure => have := HGJ.out; have := HJT.out; omega
            case rel => exact ⟨j + 1, by go_num, by have := HJT.out; omega, Lib.hid (below_drewN HBJ.out _)⟩
          · have hj5 : k = j := by omega
            subst hj5
            have hq1 : decide ((k : Int) < (k : Int)) = false := by simp
            have hq2 : decide (k < k) = false := by simp
            go_wp2_with fail
            go_ret
            exact ⟨rfl, HB4.out.trans (HBJ.out.mono HB4.out.size)⟩
end Go.Proofs.YtmdbcknlipahgaaDoor
