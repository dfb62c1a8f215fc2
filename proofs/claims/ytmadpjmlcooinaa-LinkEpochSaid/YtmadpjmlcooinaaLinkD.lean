/- The walk of link.Acked. -/
import Derived.Test.YtmadpjmlcooinaaLinkC
import Derived.Deep.RegionHeld3
import Derived.IntWalk
import Derived.Deep.DeepCutAuto
namespace Go.Proofs.Ytmadpjmlcooinaa
open Go.RowKit
theorem mcs_drop (l : List (Nat × Nat)) (k : Nat) : (mcs l).drop (k * 2) = mcs (l.drop k) := by
  induction k generalizing l with
  | zero => simp
  | succ k ih =>
    cases l with
    | nil => simp [mcs]
    | cons a l =>
      rw [List.drop_succ_cons, ← ih l, Nat.succ_mul, Nat.add_comm, ← List.drop_drop]
      rfl
set_option maxHeartbeats 4000000 in
set_option maxRecDepth 100000 in
theorem acked_ok (ep ba no n c k : Nat) (p : Option Addr) (l : List (Nat × Nat)) (w : World) (he : ep ≤ 1099511627776) (hba : ba ≤ 1099511627776) (hn : n ≤ 5000) (hl : Sl w 2 (.slice p n c) n (mcs l)) (hp : ∀ a, p = some a → ∃ b off, a = ⟨b, off, none⟩) (hno : no ≤ ba + min n 4) (hkk : no - ba = k) :
    Calls Try.prog 22 #[sndV ep ba (.slice p n c), ackV ep no] w fun e w' => ∃ p' c', e = .returned (.tuple #[sndV ep (ba + k) (.slice p' (n - k) c'), .int .i64 0]) ∧ w'.ownsRow w.heap.size 41 2 (.slice p' (n - k) c') (n - k) (mcs (l.drop k)) ∧ Below w.heap.size w w' := by
  have HS := Lib.hid (fun W => sender_ok ep ba n c p W he (by omega) (by omega))
  have HF := Lib.hid (fun W => flying_ok ep ba n c p W)
  have HL := Lib.hid hl
  clear hl
  have hlt : decide ((no : Int) < 0) = false := by simp
  have hgt : decide ((ba : Int) + ((min n 4 : Nat) : Int) < (no : Int)) = false := by simp; omega
  have hwr : IntKind.i64.wrap ((ba : Int) + ((min n 4 : Nat) : Int)) = (ba : Int) + ((min n 4 : Nat) : Int) := IntWalk.i64_in _ (by omega)
  unfold sndV at HS HF
  unfold sndV ackV
  have B0 := bx_three w [.int .i64 (ep : Int), .int .i64 (ba : Int), .slice p n c] [.int .i64 (ep : Int), .int .i64 (no : Int)] [.int .i64 0, .int .i64 0, .slice none 0 0] 27 46 27
  have hc1 := mcs_one l
  go_enter Try.func22, Try.ntmps22
  go_wp2_with (go_at_call 36; refine (HS.out _).mono ?_; rintro e w1 ⟨rfl, hb1⟩; obtain ⟨X1, X2, X3, hW, hWs⟩ := B0; have hs1 := hb1.size; have hbb := hW.trans (hb1.mono (by omega)); replace X1 := X1.later hb1 (by omega); replace X2 := X2.later hb1 (by omega); replace X3 := X3.later hb1 (by omega); rw [hWs] at hs1; clear hb1 hW hWs; obtain ⟨hR0, hR1, hR2, hF0, hF1, hF2⟩ := X1.three; obtain ⟨hS0, hS1, _, _⟩ := X2.two)
  go_region_held3 (fun w' => w'.cell? ⟨w.heap.size, 0, none⟩ = some (Value.int .i64 (ep : Int)) ∧ w'.cell? ⟨w.heap.size, 1, none⟩ = some (Value.int .i64 (ba : Int)) ∧ w'.cell? ⟨w.heap.size, 2, none⟩ = some (Value.slice p n c) ∧ w'.cell? ⟨w.heap.size + 1, 1, none⟩ = some (Value.int .i64 (no : Int))) (first | (exact ⟨hy0, hy1, hy2, hy3⟩) | go_keep)
    (first
      | (go_at_call 38; refine (HF.out _).mono ?_; rintro e w2 ⟨rfl, hb2⟩; have hc2 : Below w1.heap.size w1 w2 := below_undrew hb2; obtain ⟨hy0, hy1, hy2, _, _, _⟩ := (X1.later hc2 X1.lt).three; obtain ⟨_, hy3, _, _⟩ := (X2.later hc2 X2.lt).two))
  clear hwr hgt
  replace X1 := X1.later hc2 X1.lt; replace X2 := X2.later hc2 X2.lt; replace X3 := X3.later hc2 X3.lt
  replace hbb := hbb.trans (hc2.mono (by omega))
  have hs2 := Nat.le_trans hs1 hc2.size
  clear hR0 hR1 hR2 hF0 hF1 hF2 hS0 hS1 hy0 hy1 hy2 hy3 hb2 hc2 hs1
  obtain ⟨hR0, hR1, hR2, hF0, hF1, hF2⟩ := X1.three
  obtain ⟨hS0, hS1, _, _⟩ := X2.two
  have hkn : k ≤ n := by omega
  go_upto_region 7 with fail
  go_cut [6] (fun s6 wx => s6 = .int .i64 ((k : Nat) : Int) ∧ wx = w2)
  case first =>
    go_wp2_with fail
    all_goals go_meet
    all_goals exact ⟨congrArg (Value.int .i64) (by omega), rfl⟩
  case rest =>
    obtain ⟨rfl, rfl⟩ := hcut
    clear hno hkk
    have hi0 : (0 : Int) ≤ (k : Int) := by omega
    have hin : (k : Int) ≤ (n : Int) := by omega
    have hwk : IntKind.i64.wrap ((ba : Int) + (k : Int)) = (ba : Int) + (k : Int) := IntWalk.i64_in _ (by omega)
    obtain ⟨hn1, hc63⟩ : n ≤ c ∧ c ≤ 9223372036854775807 := by
      obtain ⟨p', c', hp, h1, h2, _⟩ := HL.out
      cases hp
      exact ⟨h1, by unfold maxLen at h2; omega⟩
    have hic : (k : Int) ≤ (c : Int) := by omega
    have hcc : (n : Int) ≤ (c : Int) := by omega
    by_cases hck : c = k
    · subst hck
      obtain rfl : n = c := by omega
      have hll : l.drop n = [] := by
        obtain ⟨p', c', hp', _, _, h3, _⟩ := HL.out
        rw [mcs_len] at h3
        exact List.drop_eq_nil_of_le (by omega)
      have HLL := Lib.hid hll
      have HCL := Lib.hid (clone_ok 0 0 p [] wc ⟨p, 0, rfl, Nat.le_refl _, by decide, rfl, fun _ => rfl, .inl rfl⟩ (by simp) (by omega))
      clear hll
      go_wp2_with (go_at_call 37; refine HCL.out.mono ?_; rintro e w3 ⟨p3, c3, rfl, hown, hb3⟩; obtain ⟨hz0, hz1, hz2, hj0, hj1, hj2⟩ := (X1.later hb3 X1.lt).three; obtain ⟨hx0, hx1, hx2, hi0, hi1, hi2⟩ := (X3.later hb3 X3.lt).three)
      refine bodyPost_ret (v := .tuple #[sndV ep (ba + n) (.slice p3 (n - n) c3), .int .i64 0]) ?_ rfl ⟨p3, c3, rfl, ?_, ?_⟩
      · rw [results_cell_tmp rfl, Nat.sub_self]
        unfold sndV
        rw [show ((ba + n : Nat) : Int) = (ba : Int) + (n : Int) from by push_cast; rfl]
        go_simp
      · rw [HLL.out, Nat.sub_self]
        refine own_mono (base := wc.heap.size) ?_ (by omega)
        iterate 5 (refine own_setCell ?_ (by simp <;> omega) _)
        exact hown
      · iterate 5 (refine Below.setCell ?_ (by simp <;> omega) _)
        exact hbb.trans (hb3.mono (by omega))
    · have hcz : ((c : Int) - (k : Int) == 0) = false := by simp; omega
      obtain ⟨b, off, rfl⟩ : ∃ b off, p = some ⟨b, off, none⟩ := by
        rcases p with _ | a
        · obtain ⟨p', c', hp', _, _, _, h4, _⟩ := HL.out
          cases hp'
          have := h4 rfl
          omega
        · obtain ⟨b, off, rfl⟩ := hp a rfl
          exact ⟨b, off, rfl⟩
      have HSL := (HL.out.later hbb).dropk (k := k) (by omega)
      rw [mcs_drop] at HSL
      have HCL := Lib.hid (clone_ok (n - k) (c - k) _ _ wc HSL (mcs_one _) (by omega))
      clear HSL
      go_wp2_with (go_at_call 37; refine HCL.out.mono ?_; rintro e w3 ⟨p3, c3, rfl, hown, hb3⟩; obtain ⟨hz0, hz1, hz2, hj0, hj1, hj2⟩ := (X1.later hb3 X1.lt).three; obtain ⟨hx0, hx1, hx2, hi0, hi1, hi2⟩ := (X3.later hb3 X3.lt).three)
      refine bodyPost_ret (v := .tuple #[sndV ep (ba + k) (.slice p3 (n - k) c3), .int .i64 0]) ?_ rfl ⟨p3, c3, rfl, ?_, ?_⟩
      · rw [results_cell_tmp rfl]
        unfold sndV
        rw [show ((ba + k : Nat) : Int) = (ba : Int) + (k : Int) from by push_cast; rfl]
        go_simp
      · refine own_mono (base := wc.heap.size) ?_ (by omega)
        iterate 5 (refine own_setCell ?_ (by simp <;> omega) _)
        exact hown
      · iterate 5 (refine Below.setCell ?_ (by simp <;> omega) _)
        exact hbb.trans (hb3.mono (by omega))

end Go.Proofs.Ytmadpjmlcooinaa
