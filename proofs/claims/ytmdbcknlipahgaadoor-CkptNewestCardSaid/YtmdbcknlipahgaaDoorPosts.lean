/- The walk of pacelinekeep.posts: mail of raw numbers. -/
import Derived.Test.YtmdbcknlipahgaaDoorOwn3
import Derived.Test.YtmdbcknlipahgaaDoorRead
import Derived.Test.YtmdbcknlipahgaaDoorPick
namespace Go.Proofs.YtmdbcknlipahgaaDoor
open Go.RowKit
/-- mail as cells -/
def mcs (l : List (Nat × Nat)) : List Value := l.flatMap fun m => [Value.int .i64 (m.1 : Int), Value.int .i64 (m.2 : Int)]
theorem mcs_snoc (l : List (Nat × Nat)) (m : Nat × Nat) : mcs (l ++ [m]) = mcs l ++ [Value.int .i64 (m.1 : Int), Value.int .i64 (m.2 : Int)] := by simp [mcs]
theorem mcs_append (l r : List (Nat × Nat)) : mcs (l ++ r) = mcs l ++ mcs r := by simp [mcs]
theorem mcs_len (l : List (Nat × Nat)) : (mcs l).length = l.length * 2 := by
  induction l with
  | nil => rfl
  | cons a l ih => show ([_, _] ++ mcs l).length = _; rw [List.length_append, ih, List.length_cons]; simp; omega
theorem mcs_one (l : List (Nat × Nat)) : ∀ u ∈ mcs l, u.oneCell' = true := by
  intro u hu
  obtain ⟨x, _, h⟩ := List.mem_flatMap.1 hu
  simp at h
  rcases h with rfl | rfl <;> rfl
def mailOf (r : List Int) : Nat × Nat := (pickN (r.getD 0 0) 6, pickN (r.getD 1 0) 1000)
def postsL (raw : List (List Int)) (m : Nat) : List (Nat × Nat) := (raw.take m).map mailOf
theorem inf_mail : (Tryd.prog.info? 103).map (fun i => (i.zero, i.size, i.bytes)) = some (some (.agg #[.int .i64 0, .int .i64 0]), 2, 16) := by kernel_rfl
set_option maxHeartbeats 2000000 in
set_option maxRecDepth 100000 in
theorem posts_any (p : Option Addr) (c n : Nat) (raw : List (List Int)) (m : Nat) (w : World) (hl : IsR 2 w (.slice p n c) raw) (hm : m ≤ 1000) :
    Calls Tryd.prog 39 #[.slice p n c, .int .i64 (m : Int)] w fun e w' => ∃ p' c', e = .returned (.slice p' (postsL raw m).length c') ∧ w'.ownsRow w.heap.size 103 2 (.slice p' (postsL raw m).length c') (postsL raw m).length (mcs (postsL raw m)) ∧ Below w.heap.size w w' := by
  obtain ⟨rfl, hc1, hc2⟩ := hl.lens
  have HL := Lib.hid hl
  have hla : raw.length ≤ 9223372036854775807 := by omega
  clear hl hc1 hc2
  go_enter Tryd.func39, Tryd.ntmps39
  go_wp2_with fail
  have hpl : (postsL raw m).length = min m raw.length := by simp [postsL]
  have hlm1 : (postsL raw m).length ≤ m := by omega
  have hlm2 : (postsL raw m).length ≤ raw.length := by omega
  have hlm3 : (postsL raw m).length < raw.length → m ≤ (postsL raw m).length := by omega
  clear hpl
  generalize hT : postsL raw m = T at *
  go_loopw [5, 6] (fun v i wr => ∃ (k : Nat) (p' : Option Addr) (c' : Nat), i = .int .i64 (k : Int) ∧ k ≤ T.length ∧ v = .slice p' k c' ∧ wr.ownsRow w.heap.size 103 2 (.slice p' k c') k (mcs (T.take k)) ∧ Below w.heap.size w wr ∧ w.heap.size ≤ wr.heap.size)
    (fun _ i _ => 2000 - (intOf i).toNat)
  case atStart => exact ⟨0, none, 0, rfl, by omega, rfl, World.ownsRow_nil _ _ _ _, Below.refl _ _, Nat.le_refl _⟩
  case round =>
    obtain ⟨k, p', c', rfl, hk, rfl, hown, hb, hsz⟩ := hrel
    have HTT := Lib.hid hT
    have hkm : k ≤ m := by omega
    clear hT
    by_cases hlt : k < T.length
    · have hkl : k < raw.length := by omega
      have hkm2 : k < m := by omega
      have hTk : T[k]? = some (mailOf raw[k]) := by
        rw [← HTT.out]
        unfold postsL
        rw [List.getElem?_map, List.getElem?_take_of_lt hkm2, List.getElem?_eq_getElem hkl]; rfl
      have hrow := HL.out.2 _ (List.getElem_mem hkl)
      obtain ⟨hr2, hrb⟩ := hrow
      have h0 : (raw[k])[0]? = some ((raw[k]).getD 0 0) := by rw [List.getD_eq_getElem?_getD, List.getElem?_eq_getElem (by omega)]; rfl
      have h1 : (raw[k])[1]? = some ((raw[k]).getD 1 0) := by rw [List.getD_eq_getElem?_getD, List.getElem?_eq_getElem (by omega)]; rfl
      have hb0 := hrb _ (List.mem_of_getElem? h0)
      have hb1 := hrb _ (List.mem_of_getElem? h1)
      obtain ⟨b, off, rfl, hcw0⟩ := HL.out.get hkl h0
      obtain ⟨b', off', hbe, hcw1⟩ := HL.out.get hkl h1
      cases hbe
      have hbw : b < w.heap.size := World.block_lt_of_cell? w _ hcw0
      have HC := Lib.hid (fun (W : World) (h : Below w.heap.size w W) => (show W.cell? ⟨b, off + k * 2, none⟩ = some _ ∧ W.cell? ⟨b, off + k * 2 + 1, none⟩ = some _ from ⟨(h.cell (p := ⟨b, off + (k * 2 + 0), none⟩) hbw).trans hcw0, (h.cell (p := ⟨b, off + (k * 2 + 1), none⟩) hbw).trans hcw1⟩))
      obtain ⟨hcell0, hcell1⟩ := HC.out wr hb
      unfold mailOf at hTk
      generalize (raw[k]).getD 0 0 = x at hb0 hcell0 hTk HC
      generalize (raw[k]).getD 1 0 = y at hb1 hcell1 hTk HC
      have HPX := Lib.hid (fun W => picked_i x 6 6 W rfl hb0.1 hb0.2 (by omega) (by omega))
      have HPY := Lib.hid (fun W => picked_i y 1000 1000 W rfl hb1.1 hb1.2 (by omega) (by omega))
      have hX := pickN_lt x (m := 6) (by omega)
      have hY := pickN_lt y (m := 1000) (by omega)
      generalize pickN x 6 = X at HPX hX hTk
      generalize pickN y 1000 = Y at HPY hY hTk
      have HTK := Lib.hid hTk
      have hd1 : decide ((k : Int) < (raw.length : Int)) = true := by simp <;> omega
      have hd2 : decide ((k : Int) < (m : Int)) = true := by simp <;> omega
      have hd3 : decide (k < raw.length) = true := by simp <;> omega
      have hd4 : decide (k < m) = true := by simp <;> omega
      have hk0 : (0 : Int) ≤ (k : Int) := by omega
      have hk1 : (k : Int) < (raw.length : Int) := by omega
      clear h0 h1 hrb hr2 hTk hcw0 hcw1
      go_wp2_with fail
      go_region_held3 (fun w' => w'.cell? ⟨b, off + k * 2, none⟩ = some (Value.int .i64 x) ∧ w'.cell? ⟨b, off + k * 2 + 1, none⟩ = some (Value.int .i64 y)) (first | (exact HC.out _ hbe) | go_keep)
        (first
          | (go_at_call_of 18 (Value.int .i64 x); refine (HPX.out _).mono ?_; rintro e w' ⟨rfl, rfl⟩)
          | (go_at_call_of 18 (Value.int .i64 y); refine (HPY.out _).mono ?_; rintro e w' ⟨rfl, rfl⟩)
          | (refine step_app rfl _ _ _ rfl w.heap.size 103 rfl inf_mail rfl (by decide) rfl ((hown.alloc _)) rfl (news := [Value.int .i64 (X : Int), Value.int .i64 (Y : Int)]) (sl_new wr [Value.int .i64 (X : Int), Value.int .i64 (Y : Int)] 103).drew (by intro u hu; simp at hu; rcases hu with rfl | rfl <;> rfl) (by unfold maxLen; omega) (by omega) (below_drew (hb.alloc hsz _)) (by simp; omega) ?_; intro p1 c1 w1 hown1 hbe hsz1 _ _))
      have hown2 : w1.ownsRow w.heap.size 103 2 (.slice p1 (k + 1) c1) (k + 1) (mcs (T.take (k + 1))) := by
        have e : T.take (k + 1) = T.take k ++ [(X, Y)] := by rw [List.take_add_one, HTK.out]; rfl
        rw [e, mcs_snoc]
        exact hown1
      clear hown1
      go_wp2_with fail
      go_roundw
      case rel => exact ⟨k + 1, p1, c1, by go_num, by omega, rfl, hown2, hbe, hsz1⟩
      case measure => simp [intOf]; omega
    · obtain rfl : k = T.length := by omega
      rw [List.take_length] at hown
      by_cases hcl : T.length < raw.length
      · have hd1 : decide ((T.length : Int) < (raw.length : Int)) = true := by simp <;> omega
        have hd2 : decide ((T.length : Int) < (m : Int)) = false := by simp <;> omega
        have hd3 : decide (T.length < raw.length) = true := by simp <;> omega
        have hd4 : decide (T.length < m) = false := by simp <;> omega
        clear hcl
        go_wp2_with fail
        go_ret
        rw [HTT.out]
        exact ⟨p', c', rfl, hown, hb⟩
      · have hd1 : decide ((T.length : Int) < (raw.length : Int)) = false := by simp <;> omega
        have hd3 : decide (T.length < raw.length) = false := by simp <;> omega
        clear hcl
        go_wp2_with fail
        go_ret
        rw [HTT.out]
        exact ⟨p', c', rfl, hown, hb⟩
end Go.Proofs.YtmdbcknlipahgaaDoor
