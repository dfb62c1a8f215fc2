/- The walk of graph.Hops. -/
import Derived.Test.YtcaolnpkpialdaaSfE
import Derived.Test.YtcaolnpkpialdaaPosts
namespace Go.Proofs.Ytcaolnpkpialdaa
open Go.RowKit
theorem inf_hop : (Try.prog.info? 104).map (fun i => (i.zero, i.size, i.bytes)) = some (some (.agg #[.int .i64 0, .int .i64 0]), 2, 16) := by kernel_rfl
theorem hopsL_take_yes {E : List Eg} {k v : Nat} (h : k < E.length) (hv : E[k].1 = v) : hopsL (E.take (k + 1)) v = hopsL (E.take k) v ++ [E[k].2] := by
  unfold hopsL
  rw [List.take_succ_eq_append_getElem h, List.filter_append, List.map_append, List.filter_cons, if_pos (by simpa using hv)]; rfl
theorem hopsL_take_no {E : List Eg} {k v : Nat} (h : k < E.length) (hv : E[k].1 ≠ v) : hopsL (E.take (k + 1)) v = hopsL (E.take k) v := by
  unfold hopsL
  rw [List.take_succ_eq_append_getElem h, List.filter_append, List.map_append, List.filter_cons, if_neg (by simpa using hv)]; simp
theorem hopsL_take_len (E : List Eg) (k v : Nat) : (hopsL (E.take k) v).length ≤ k := by
  unfold hopsL
  rw [List.length_map]
  exact Nat.le_trans (List.length_filter_le _ _) (List.length_take_le _ _)
set_option maxHeartbeats 4000000 in
set_option maxRecDepth 100000 in
theorem hopsG_ok (N n c v : Nat) (p : Option Addr) (E : List Eg) (w : World) (h : Sl w 3 (.slice p n c) n (ecs E)) (hG : InG N E) (hN : N ≤ 200) (hn : n ≤ 600) (hv : v < N) :
    Calls Try.prog 31 #[.agg #[.int .i64 (N : Int), .slice p n c], .int .i64 (v : Int)] w fun e w' => ∃ p' c', e = .returned (.tuple #[.slice p' (hopsL (srt cfE E) v).length c', .int .i64 0]) ∧ w'.ownsRow w.heap.size 104 2 (.slice p' (hopsL (srt cfE E) v).length c') (hopsL (srt cfE E) v).length (mcs (hopsL (srt cfE E) v)) ∧ Below w.heap.size w w' := by
  have hel := h.elen.1
  have HSO := Lib.hid (fun (W : World) (h' : Below w.heap.size w W) => sortedG_ok N n c p E W (h.later h') hG hN hn)
  have hsl : (srt cfE E).length = n := by rw [srt_len]; exact hel.symm
  clear h hG hel
  generalize srt cfE E = T at *
  have HTL := Lib.hid hsl
  clear hsl
  have B1 := bx_new w [.int .i64 (N : Int), .slice p n c] 25
  have hW := (Below.refl w.heap.size w).alloc (Nat.le_refl _) (.cells #[.int .i64 (N : Int), .slice p n c] 25)
  have hsz : (w.alloc (.cells #[.int .i64 (N : Int), .slice p n c] 25)).heap.size = w.heap.size + 1 := by simp
  have HB1 := Lib.hid B1
  have HSZ := Lib.hid hsz
  obtain ⟨ha0, ha1, _, _⟩ := B1.two
  clear B1 hsz
  have hd1 : decide ((v : Int) < 0) = false := by simp <;> omega
  have hd2 : decide ((N : Int) ≤ (v : Int)) = false := by simp; omega
  have hd3 : decide (N ≤ v) = false := by simp; omega
  go_enter Try.func31, Try.ntmps31
  go_wp2_with fail
  refine (HSO.out _ hW).mono ?_; rintro e w1 ⟨p1, c1, rfl, ho1, hb1⟩
  have hs1 := hb1.size
  have hw1 := hW.trans (hb1.mono (by rw [HSZ.out]; omega))
  have X1 := HB1.out.later hb1 (by rw [HSZ.out]; omega)
  rw [HSZ.out] at hs1
  clear hb1 hW ha0 ha1
  generalize (w.alloc (.cells #[.int .i64 (N : Int), .slice p n c] 25)) = W0 at *
  have HL := Lib.hid (Sl.of_own ho1)
  have X1' := X1.alloc (.cells #[.int .i64 (N : Int), .slice p1 n c1] 25)
  obtain ⟨ha0, ha1, _, _⟩ := X1.two
  obtain ⟨hz0, hz1, _, _⟩ := X1'.two
  clear ho1 X1'
  have hnc1 := HL.out.elen.2.1
  have hnc2 := HL.out.elen.2.2
  have hs2 : w.heap.size + 1 ≤ (w1.alloc (.cells #[.int .i64 (N : Int), .slice p1 n c1] 25)).heap.size := by simp; omega
  have hw2 := hw1.alloc (by omega) (.cells #[.int .i64 (N : Int), .slice p1 n c1] 25)
  have HL2 := Lib.hid (HL.out.later ((Below.refl w1.heap.size w1).alloc (Nat.le_refl _) (.cells #[.int .i64 (N : Int), .slice p1 n c1] 25)))
  go_wp2_with fail
  clear ha0 ha1 hz0 hz1
  generalize (w1.alloc (.cells #[.int .i64 (N : Int), .slice p1 n c1] 25)) = w2 at *
  go_loopg [8, 30] n (fun gk v8 v30 wr => ∃ (k : Nat) (p' : Option Addr) (c' : Nat), v30 = .int .i64 (k : Int) ∧ k + gk = n ∧ v8 = .slice p' (hopsL (T.take k) v).length c' ∧ wr.ownsRow w2.heap.size 104 2 (.slice p' (hopsL (T.take k) v).length c') (hopsL (T.take k) v).length (mcs (hopsL (T.take k) v)) ∧ Below w2.heap.size w2 wr)
  case atStart => exact ⟨0, none, 0, rfl, by omega, rfl, World.ownsRow_nil _ _ _ _, Below.refl _ _⟩
  case round =>
    obtain ⟨k, p', c', rfl, hgk, rfl, hown, hb⟩ := hrel
    have HGK := Lib.hid hgk
    have hk : k ≤ n := by omega
    clear hgk
    have hsz := hb.size
    by_cases hlt : k < n
    · have hkl : k < T.length := by have := HTL.out; omega
      have hyes := Lib.hid (fun h => hopsL_take_yes (v := v) hkl h)
      have hno := Lib.hid (fun h => hopsL_take_no (v := v) hkl h)
      have hml := hopsL_take_len T k v
      generalize hopsL (T.take k) v = M at *
      obtain ⟨b, off, rfl, hc0, hc1, hc2⟩ := (HL2.out.later hb).edge hkl
      generalize T[k] = x at hyes hno hc0 hc1 hc2
      obtain ⟨x1, x2, x3⟩ := x
      dsimp only at hyes hno hc0 hc1 hc2
      have hk0 : (0 : Int) ≤ (k : Int) := by omega
      have hkn : (k : Int) < (n : Int) := by omega
      have hd1' : decide ((k : Int) < (n : Int)) = true := by simp; omega
      have hd2' : decide (k < n) = true := by simp; omega
      by_cases hx : x1 = v
      · have he : ((x1 : Int) == (v : Int)) = true := beq_iff_eq.2 (by omega)
        go_wp2_with (at_builtin; refine wp_app1h (w0 := w2) rfl (.tmp 38) (.tmp 44) _ rfl w2.heap.size 104 rfl inf_hop rfl (by decide) rfl (hown.alloc _) (us := [.int .i64 (x2 : Int), .int .i64 (x3 : Int)]) rfl (by simp) rfl (by simp [Value.oneCell']) (by unfold maxLen; omega) (by omega) (hb.alloc hsz _) (by simp; omega) ?_; intro p3 c3 w3 hown3 hb3 hs3 hg3 _)
        have hown2 : w3.ownsRow w2.heap.size 104 2 (.slice p3 (hopsL (T.take (k + 1)) v).length c3) (hopsL (T.take (k + 1)) v).length (mcs (hopsL (T.take (k + 1)) v)) := by
          rw [hyes.out hx, mcs_snoc, List.length_append]; exact hown3
        have hlen : (hopsL (T.take (k + 1)) v).length = M.length + 1 := by rw [hyes.out hx, List.length_append]; rfl
        have HLEN := Lib.hid hlen
        clear hown3 hlen he
        go_wp2_with fail
        go_roundg (n - (k + 1))
        case measure => have := HGK.out; omega
        case rel => exact ⟨k + 1, p3, c3, by go_num, by omega, by rw [HLEN.out], hown2, hb3⟩
      · have he : ((x1 : Int) == (v : Int)) = false := by simp; omega
        have hown2 : wr.ownsRow w2.heap.size 104 2 (.slice p' (hopsL (T.take (k + 1)) v).length c') (hopsL (T.take (k + 1)) v).length (mcs (hopsL (T.take (k + 1)) v)) := by
          rw [hno.out hx]; exact hown
        have hlen : (hopsL (T.take (k + 1)) v).length = M.length := by rw [hno.out hx]
        have HLEN := Lib.hid hlen
        clear hlen hx
        go_wp2_with fail
        go_roundg (n - (k + 1))
        case measure => have := HGK.out; omega
        case rel => exact ⟨k + 1, p', c', by go_num, by omega, by rw [HLEN.out], hown2.alloc _, hb.alloc hsz _⟩
    · obtain rfl : k = n := by omega
      have hd1' : decide ((k : Int) < (k : Int)) = false := by simp
      rw [List.take_of_length_le (by have := HTL.out; omega)] at hown ⊢
      go_wp2_with fail
      go_ret2
      exact ⟨p', c', rfl, own_mono hown (by omega), hw2.trans (hb.mono (by omega))⟩
end Go.Proofs.Ytcaolnpkpialdaa
