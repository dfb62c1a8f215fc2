/- The walk of link.Due. -/
import Derived.Test.YtmadpjmlcooinaaLinkD
import Derived.Deep.QuietTactic
namespace Go.Proofs.Ytmadpjmlcooinaa
open Go.RowKit
/-- packets as cells: their number and their mail -/
def pkc (ep : Nat) (l : List (Nat × (Nat × Nat))) : List Value := l.flatMap fun q => [.int .i64 (ep : Int), .int .i64 (q.1 : Int), .int .i64 (q.2.1 : Int), .int .i64 (q.2.2 : Int)]
theorem pkc_append (ep : Nat) (l r : List (Nat × (Nat × Nat))) : pkc ep (l ++ r) = pkc ep l ++ pkc ep r := by simp [pkc]
theorem pkc_one (ep : Nat) (l : List (Nat × (Nat × Nat))) : ∀ u ∈ pkc ep l, u.oneCell' = true := by
  intro u hu
  obtain ⟨x, _, h⟩ := List.mem_flatMap.1 hu
  simp at h
  rcases h with rfl | rfl | rfl | rfl <;> rfl
theorem pkc_len (ep : Nat) (l : List (Nat × (Nat × Nat))) : (pkc ep l).length = l.length * 4 := by
  induction l with
  | nil => rfl
  | cons a l ih => show ([_, _, _, _] ++ pkc ep l).length = _; rw [List.length_append, ih, List.length_cons]; simp; omega
/-- what is due: mail with its numbers -/
def dueF : Nat → List (Nat × Nat) → List (Nat × (Nat × Nat))
  | _, [] => []
  | b, m :: r => (b, m) :: dueF (b + 1) r
theorem dueF_snoc (l : List (Nat × Nat)) (m : Nat × Nat) : ∀ b, dueF b (l ++ [m]) = dueF b l ++ [(b + l.length, m)] := by
  induction l with
  | nil => intro b; rfl
  | cons a l ih =>
    intro b
    show (b, a) :: dueF (b + 1) (l ++ [m]) = _
    rw [ih, List.length_cons, show b + 1 + l.length = b + (l.length + 1) from by omega]
    rfl
theorem dueF_len : ∀ (l : List (Nat × Nat)) (b : Nat), (dueF b l).length = l.length := by
  intro l
  induction l with
  | nil => intro b; rfl
  | cons a l ih => intro b; rw [dueF, List.length_cons, List.length_cons, ih]
theorem inf_pkt : (Try.prog.info? 50).map (fun i => (i.zero, i.size, i.bytes)) = some (some (.agg #[.int .i64 0, .int .i64 0, .int .i64 0, .int .i64 0]), 4, 32) := by kernel_rfl
theorem mcs_get {l : List (Nat × Nat)} {i : Nat} (h : i < l.length) : (mcs l)[i * 2]? = some (.int .i64 (l[i].1 : Int)) ∧ (mcs l)[i * 2 + 1]? = some (.int .i64 (l[i].2 : Int)) := by
  induction l generalizing i with
  | nil => simp at h
  | cons a l ih =>
    cases i with
    | zero => exact ⟨rfl, rfl⟩
    | succ i =>
      have := ih (i := i) (by simpa using h)
      rw [show (i + 1) * 2 = i * 2 + 1 + 1 from by omega]
      exact this
set_option maxHeartbeats 400000 in
set_option maxRecDepth 100000 in
theorem due_ok (ep ba n c : Nat) (p : Option Addr) (l : List (Nat × Nat)) (w : World) (he : ep ≤ 1099511627776) (hba : ba ≤ 1099511627776) (hn : n ≤ 5000) (hl : Sl w 2 (.slice p n c) n (mcs l)) :
    Calls Try.prog 20 #[sndV ep ba (.slice p n c)] w fun e w' => ∃ p' c', e = .returned (.tuple #[.slice p' (min n 4) c', .int .i64 0]) ∧ w'.ownsRow w.heap.size 50 4 (.slice p' (min n 4) c') (min n 4) (pkc ep (dueF ba (l.take (min n 4)))) ∧ Below w.heap.size w w' := by
  have HS := Lib.hid (fun W => sender_ok ep ba n c p W he (by omega) (by omega))
  have HF := Lib.hid (fun W => flying_ok ep ba n c p W)
  have HL := Lib.hid hl
  obtain ⟨hn1, hc63, hll⟩ : n ≤ c ∧ c ≤ 9223372036854775807 ∧ n = l.length := by
    obtain ⟨p', c', hp, h1, h2, h3, _⟩ := hl
    cases hp
    rw [mcs_len] at h3
    exact ⟨h1, by unfold maxLen at h2; omega, by omega⟩
  have HLN := Lib.hid hll
  clear hl hll
  unfold sndV at HS HF
  unfold sndV
  obtain ⟨m, hm⟩ : ∃ m, m = min n 4 := ⟨_, rfl⟩
  rw [← hm] at HF ⊢
  have hm4 : m ≤ 4 := by omega
  have hmn : m ≤ n := by omega
  clear hm
  have hi0 : (0 : Int) ≤ (m : Int) := by omega
  have hic : (m : Int) ≤ (c : Int) := by omega
  go_enter Try.func20, Try.ntmps20
  go_wp2_with (go_at_call 36; refine (HS.out _).mono ?_; rintro e w1 ⟨rfl, hb1⟩; have X1 := (bx_new w [.int .i64 (ep : Int), .int .i64 (ba : Int), .slice p n c] 27).later hb1 (by simp); have hs1 := hb1.size; have hbb := ((Below.refl _ w).alloc (Nat.le_refl _) _).trans (hb1.mono (by simp)); clear hb1; obtain ⟨hR0, hR1, hR2, hF0, hF1, hF2⟩ := X1.three)
  go_region_held3 (fun w' => w'.cell? ⟨w.heap.size, 0, none⟩ = some (Value.int .i64 (ep : Int)) ∧ w'.cell? ⟨w.heap.size, 1, none⟩ = some (Value.int .i64 (ba : Int)) ∧ w'.cell? ⟨w.heap.size, 2, none⟩ = some (Value.slice p n c)) (first | (exact ⟨hy0, hy1, hy2⟩) | go_keep)
    (first
      | (go_at_call 38; refine (HF.out _).mono ?_; rintro e w2 ⟨rfl, hb2⟩; have hc2 : Below w1.heap.size w1 w2 := below_undrew hb2; obtain ⟨hy0, hy1, hy2, _, _, _⟩ := (X1.later hc2 X1.lt).three))
  replace X1 := X1.later hc2 X1.lt
  replace hbb := hbb.trans (hc2.mono (by simp at hs1; omega))
  have hs2 : w.heap.size + 1 ≤ w2.heap.size := Nat.le_trans (by simpa using hs1) hc2.size
  clear hR0 hR1 hR2 hF0 hF1 hF2 hy0 hy1 hy2 hb2 hc2 hs1 HS HF
  go_wp2_with fail
  go_loopw [4, 16] (fun v i wr => ∃ (k : Nat) (p' : Option Addr) (c' : Nat), i = .int .i64 (k : Int) ∧ k ≤ m ∧ v = .slice p' k c' ∧ wr.ownsRow (w.heap.size + 1) 50 4 (.slice p' k c') k (pkc ep (dueF ba (l.take k))) ∧ Below (w.heap.size + 1) w2 wr ∧ w.heap.size + 1 ≤ wr.heap.size)
    (fun _ i _ => 2000 - (intOf i).toNat)
  case atStart => exact ⟨0, none, 0, rfl, by omega, rfl, World.ownsRow_nil _ _ _ _, Below.refl _ _, hs2⟩
  case round =>
    obtain ⟨k, p', c', rfl, hk, rfl, hown, hb, hsz⟩ := hrel
    by_cases hlt : k < m
    · have hkl : k < l.length := by have := HLN.out; omega
      have hbw : Below w.heap.size w wr := hbb.trans (hb.mono (by omega))
      have hTk := Lib.hid (List.take_succ_eq_append_getElem hkl)
      have hlk : (l.take k).length = k := by rw [List.length_take]; omega
      have HLK := Lib.hid hlk
      obtain ⟨hg0, hg1⟩ := mcs_get hkl
      obtain ⟨b, off, rfl, hcell0⟩ := (HL.out.later hbw).get hg0
      obtain ⟨b', off', hbe, hcell1⟩ := (HL.out.later hbw).get hg1
      cases hbe
      rw [← Nat.add_assoc] at hcell1
      generalize l[k] = mm at hTk hcell0 hcell1
      obtain ⟨ta, va⟩ := mm
      dsimp only at hcell0 hcell1
      clear hg0 hg1 hlk
      have Y1 := X1.later hb (by omega)
      obtain ⟨hR0, hR1, hR2, _, _, _⟩ := (Y1.alloc (.cells #[.int .i64 (ta : Int), .int .i64 (va : Int)] 41)).three
      have hd1 : decide ((k : Int) < (m : Int)) = true := by simp <;> omega
      have hd2 : decide (k < m) = true := by simp <;> omega
      have hk0 : (0 : Int) ≤ (k : Int) := by omega
      have hkm : (k : Int) < (m : Int) := by omega
      have hwk : IntKind.i64.wrap ((ba : Int) + (k : Int)) = (ba : Int) + (k : Int) := IntWalk.i64_in _ (by omega)
      go_wp2_with (at_builtin; refine wp_app1 (w0 := w2) rfl _ _ _ rfl (w.heap.size + 1) 50 rfl inf_pkt rfl (by decide) rfl (hown.alloc _) (us := [.int .i64 (ep : Int), .int .i64 ((ba : Int) + (k : Int)), .int .i64 (ta : Int), .int .i64 (va : Int)]) (by show Value.slice _ 1 1 = _; simp) rfl (by simp [Value.oneCell']) (by unfold maxLen; omega) (by omega) (hb.alloc hsz _) (by simp; omega) ?_; intro p1 c1 w3 hown1 hb1 hsz1 _ _)
      have hown2 : w3.ownsRow (w.heap.size + 1) 50 4 (.slice p1 (k + 1) c1) (k + 1) (pkc ep (dueF ba (l.take (k + 1)))) := by
        rw [hTk.out, dueF_snoc, HLK.out, pkc_append]
        have ec : ((ba + k : Nat) : Int) = (ba : Int) + (k : Int) := by push_cast; rfl
        show w3.ownsRow _ _ _ _ _ (_ ++ [_, .int .i64 ((ba + k : Nat) : Int), _, _])
        rw [ec]
        exact hown1
      clear hown1
      go_roundw
      case rel => exact ⟨k + 1, p1, c1, by go_num, by omega, rfl, hown2, hb1, hsz1⟩
      case measure => simp [intOf]; omega
    · obtain rfl : k = m := by omega
      have hd1 : decide ((k : Int) < (k : Int)) = false := by simp
      have hd2 : decide (k < k) = false := by simp
      go_wp2_with fail
      refine bodyPost_ret (results_tmp2 rfl _ _ _) rfl ?_
      exact ⟨p', c', rfl, own_mono hown (by omega), hbb.trans (hb.mono (by omega))⟩
end Go.Proofs.Ytmadpjmlcooinaa
