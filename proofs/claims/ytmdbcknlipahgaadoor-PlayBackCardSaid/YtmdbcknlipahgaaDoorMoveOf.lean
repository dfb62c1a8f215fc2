/- The walk of pacelinekeep.MoveOf. -/
import Derived.Test.YtmdbcknlipahgaaDoorPick
import Derived.Test.YtmdbcknlipahgaaDoorPPlay
import Derived.Test.YtmdbcknlipahgaaDoorBoxed
import Derived.Test.YtmdbcknlipahgaaDoorBx5
namespace Go.Proofs.YtmdbcknlipahgaaDoor
open Go.RowKit
/-- a move of raw numbers -/
def mvOf (K A keep : Int) : Mv := (1 + (pickN K 8 : Int), if pickN K 8 = 4 ∨ pickN K 8 = 7 then 0 else (pickN A 1000 : Int), if pickN K 8 = 5 then (pickN keep 1000 : Int) else 0)
theorem mvOf_ok (K A keep : Int) : MvIn (mvOf K A keep) ∧ OkM (mvOf K A keep) := by
  have hk := pickN_lt K (m := 8) (by decide)
  have ha := pickN_lt A (m := 1000) (by decide)
  have hp := pickN_lt keep (m := 1000) (by decide)
  unfold mvOf
  generalize pickN A 1000 = a at *
  generalize pickN keep 1000 = p at *
  generalize pickN K 8 = k at *
  refine ⟨⟨⟨by show _ ≤ 1 + (k : Int); omega, by show 1 + (k : Int) ≤ _; omega⟩, ?_, ?_⟩, ?_⟩
  · show _ ≤ (if _ then _ else _) ∧ (if _ then _ else _) ≤ _
    split <;> omega
  · show _ ≤ (if _ then _ else _) ∧ (if _ then _ else _) ≤ _
    split <;> omega
  · unfold OkM lineM
    dsimp only
    rw [if_neg (by omega)]
    have e : (1 + (k : Int) - 1).toNat = k := by omega
    rw [e, if_neg]
    unfold badN
    match k, hk with
    | 0, _ => simp [formF]; omega
    | 1, _ => simp [formF]; omega
    | 2, _ => simp [formF]; omega
    | 3, _ => simp [formF]; omega
    | 4, _ => simp [formF]
    | 5, _ => simp [formF]; omega
    | 6, _ => simp [formF]; omega
    | 7, _ => simp [formF]
    | k + 8, h => omega
set_option maxHeartbeats 4000000 in
set_option maxRecDepth 100000 in
theorem moveOf_ok (K A keep : Int) (w : World) (h1 : -9223372036854775808 ≤ K ∧ K ≤ 9223372036854775807) (h2 : -9223372036854775808 ≤ A ∧ A ≤ 9223372036854775807) (h3 : -9223372036854775808 ≤ keep ∧ keep ≤ 9223372036854775807) :
    Calls Tryd.prog 14 #[.agg #[.int .i64 K, .int .i64 A], .int .i64 keep] w fun e w' => e = .returned (.agg #[.int .i64 (mvOf K A keep).1, .int .i64 (mvOf K A keep).2.1, .int .i64 (mvOf K A keep).2.2]) ∧ Below w.heap.size w w' := by
  have HP1 := Lib.hid (fun W => picked_i K 8 8 W rfl h1.1 h1.2 (by decide) (by decide))
  have HP2 := Lib.hid (fun W => picked_i A 1000 1000 W rfl h2.1 h2.2 (by decide) (by decide))
  have HP3 := Lib.hid (fun W => picked_i keep 1000 1000 W rfl h3.1 h3.2 (by decide) (by decide))
  have hk8 := pickN_lt K (m := 8) (by decide)
  have HM1 := Lib.hid (show (mvOf K A keep).1 = 1 + (pickN K 8 : Int) from rfl)
  have HM2 := Lib.hid (show (mvOf K A keep).2.1 = if pickN K 8 = 4 ∨ pickN K 8 = 7 then 0 else (pickN A 1000 : Int) from rfl)
  have HM3 := Lib.hid (show (mvOf K A keep).2.2 = if pickN K 8 = 5 then (pickN keep 1000 : Int) else 0 from rfl)
  generalize mvOf K A keep = m at *
  obtain ⟨m1, m2, m3⟩ := m
  dsimp only at HM1 HM2 HM3 ⊢
  generalize pickN A 1000 = pa at *
  generalize pickN keep 1000 = pp at *
  generalize pickN K 8 = k at *
  by_cases c5 : k = 4
  · subst c5
    rw [if_pos (.inl rfl)] at HM2
    rw [if_neg (by decide)] at HM3
    go_enter Tryd.func14, Tryd.ntmps14
    go_wp2_with fail
    refine (HP1.out _).mono ?_; rintro e w' ⟨rfl, rfl⟩
    go_wp2_with fail
    refine bodyPost_ret (v := .agg #[.int .i64 (5), .int .i64 0, .int .i64 0]) ?_ rfl ⟨by rw [HM1.out, HM2.out, HM3.out]; rfl, (((Below.refl _ w).alloc (Nat.le_refl _) _).alloc (by simp) _).alloc (by simp; omega) _⟩
    rw [results_cell1 rfl]
    go_simp
  by_cases c8 : k = 7
  · subst c8
    rw [if_pos (.inr rfl)] at HM2
    rw [if_neg (by decide)] at HM3
    go_enter Tryd.func14, Tryd.ntmps14
    go_wp2_with fail
    refine (HP1.out _).mono ?_; rintro e w' ⟨rfl, rfl⟩
    go_wp2_with fail
    refine bodyPost_ret (v := .agg #[.int .i64 (8), .int .i64 0, .int .i64 0]) ?_ rfl ⟨by rw [HM1.out, HM2.out, HM3.out]; rfl, (((Below.refl _ w).alloc (Nat.le_refl _) _).alloc (by simp) _).alloc (by simp; omega) _⟩
    rw [results_cell1 rfl]
    go_simp
  rw [if_neg (by omega)] at HM2
  by_cases c6 : k = 5
  · subst c6
    rw [if_pos rfl] at HM3
    go_enter Tryd.func14, Tryd.ntmps14
    go_wp2_with fail
    refine (HP1.out _).mono ?_; rintro e w' ⟨rfl, rfl⟩
    go_wp2_with fail
    refine (HP2.out _).mono ?_; rintro e w' ⟨rfl, rfl⟩
    go_wp2_with fail
    refine (HP3.out _).mono ?_; rintro e w' ⟨rfl, rfl⟩
    go_wp2_with fail
    refine bodyPost_ret (v := .agg #[.int .i64 (6), .int .i64 pa, .int .i64 pp]) ?_ rfl ⟨by rw [HM1.out, HM2.out, HM3.out]; rfl, (((Below.refl _ w).alloc (Nat.le_refl _) _).alloc (by simp) _).alloc (by simp; omega) _⟩
    rw [results_cell1 rfl]
    go_simp
  rw [if_neg c6] at HM3
  have e1 : ((1 : Int) + (k : Int) != 5) = true := by simp; omega
  have e2 : ((1 : Int) + (k : Int) != 8) = true := by simp; omega
  have e3 : ((1 : Int) + (k : Int) == 6) = false := by simp; omega
  have e4 : ((1 : Int) + (k : Int) == 5) = false := by simp; omega
  have e5 : ((1 : Int) + (k : Int) == 8) = false := by simp; omega
  clear c5 c6 c8
  go_enter Tryd.func14, Tryd.ntmps14
  go_wp2_with fail
  refine (HP1.out _).mono ?_; rintro e w' ⟨rfl, rfl⟩
  go_wp2_with fail
  refine (HP2.out _).mono ?_; rintro e w' ⟨rfl, rfl⟩
  go_wp2_with fail
  refine bodyPost_ret (v := .agg #[.int .i64 (1 + (k : Int)), .int .i64 pa, .int .i64 0]) ?_ rfl ⟨by rw [HM1.out, HM2.out, HM3.out], (((Below.refl _ w).alloc (Nat.le_refl _) _).alloc (by simp) _).alloc (by simp; omega) _⟩
  rw [results_cell1 rfl]
  go_simp
end Go.Proofs.YtmdbcknlipahgaaDoor
