/- The walk of pacelinekeep.jobOf. -/
import Derived.Test.YtiaflhlfodcbjaaRoundsP
import Derived.IntWalk
namespace Go.Proofs.Ytiaflhlfodcbjaa
open Go.RowKit
/-- numbers that picked is handed -/
def PkI (x mi : Int) (m : Nat) : Prop := mi = (m : Int) ∧ -9223372036854775808 ≤ x ∧ x ≤ 9223372036854775807 ∧ 1 ≤ m ∧ m ≤ 9223372036854775807
theorem pk_ok (x mi : Int) (m : Nat) (h : PkI x mi m) (w : World) : Calls Try.prog 11 #[.int .i64 x, .int .i64 mi] w fun e w' => e = .returned (.int .i64 (pickN x m : Int)) ∧ w = w' :=
  picked_i x mi m w h.1 h.2.1 h.2.2.1 h.2.2.2.1 h.2.2.2.2
set_option maxHeartbeats 4000000 in
set_option maxRecDepth 100000 in
theorem jobOf_ok (a0 a2 a3 : Int) (p1 : Option Addr) (n1 c1 N kd sr : Nat) (raw : List (List Int)) (E : List Eg) (w : World) (ha0 : -9223372036854775808 ≤ a0) (ha1 : a0 ≤ 9223372036854775807) (ha2 : -9223372036854775808 ≤ a2) (ha3 : a2 ≤ 9223372036854775807) (ha4 : -9223372036854775808 ≤ a3) (ha5 : a3 ≤ 9223372036854775807)
    (h1 : IsR 3 w (.slice p1 n1 c1) raw) (hN : N = 1 + pickN a0 6) (hE : E = edgesL N raw) (hkd : kd = 1 + pickN a2 3) (hsr : sr = pickN a3 N) :
    Calls Try.prog 9 #[.int .i64 a0, .slice p1 n1 c1, .int .i64 a2, .int .i64 a3] w fun e w' => ∃ q d, e = .returned (jobV q d E.length N kd (sr : Int)) ∧ JobOk w' q d E.length N kd (sr : Int) E ∧ E.length ≤ 10 ∧ Below w.heap.size w w' ∧ (q = none ∧ d = 0 ∨ ∃ b, q = some ⟨b, 0, none⟩ ∧ E.length ≤ d ∧ d ≤ maxLen) := by
  have hpk := pickN_lt a0 (m := 6) (by decide)
  have hN1 : 1 ≤ N := by omega
  have hN7 : N ≤ 6 := by omega
  have hn10 := edgesL_len N raw
  have hG := edgesL_in N raw hN1
  have HM := Lib.hid (fun (W : World) (hW : Below w.heap.size w W) => made_ok a0 p1 c1 _ raw 6 W ha0 ha1 (h1.later hW) (by omega) (by omega))
  rw [← hN, ← hE] at HM
  rw [← hE] at hn10 hG
  have hkl := pickN_lt a2 (m := 3) (by decide)
  have hsl := pickN_lt a3 (m := N) hN1
  have HPK := Lib.hid (fun x mi m h W => pk_ok x mi m h W)
  have HR1 := Lib.hid (show PkI a2 3 3 from ⟨rfl, ha2, ha3, by omega, by omega⟩)
  have HR2 := Lib.hid (show PkI a3 (N : Int) N from ⟨rfl, ha4, ha5, hN1, by omega⟩)
  have HKD := Lib.hid (show ((pickN a2 3 : Nat) : Int) + 1 = (kd : Int) from by omega)
  have HKD2 := Lib.hid (show (1 : Int) + ((pickN a2 3 : Nat) : Int) = (kd : Int) from by omega)
  have HSR := Lib.hid (show ((pickN a3 N : Nat) : Int) = (sr : Int) from by omega)
  have hk1 : 1 ≤ kd := by omega
  have hk3 : kd ≤ 3 := by omega
  have hs1 : sr < N := by omega
  have HG := Lib.hid hG
  have HN10 := Lib.hid hn10
  clear h1 ha0 ha1 ha2 ha3 ha4 ha5 hpk hn10 hG hE hkd hsr hN
  obtain ⟨n, hn⟩ : ∃ n, n = E.length := ⟨_, rfl⟩
  rw [← hn] at HM HN10 ⊢
  clear hn
  obtain ⟨b1, B1, z1⟩ := boxed0 w [.int .i64 0, .slice none 0 0, .int .i64 0, .int .i64 0] 27
  generalize hw1 : (w.alloc (.cells #[.int .i64 0, .slice none 0 0, .int .i64 0, .int .i64 0] 27)) = w1 at *
  have HB1 := Lib.hid b1
  have HZ := Lib.hid B1
  clear b1 B1
  go_enter Try.func9, Try.ntmps9
  go_upto_region 1 with fail
  clear hw1
  obtain ⟨g, hg⟩ : ∃ g, g = w.heap.size := ⟨_, rfl⟩
  have HGE := Lib.hid hg
  rw [← hg] at HZ z1 ⊢
  have hg1 : g + 1 ≤ w1.heap.size := HZ.out.lt
  clear hg
  go_wp2_with fail
  refine (HM.out _ HB1.out).mono ?_; rintro e w2 ⟨q, d, rfl, ho2, hb2⟩
  have HS2 := Lib.hid ((RdB.of_own ho2).mono hg1)
  have HQS := Lib.hid (show (q = none ∧ d = 0 ∨ ∃ b, q = some ⟨b, 0, none⟩ ∧ n ≤ d ∧ d ≤ maxLen) from by
    rcases ho2.2 with ⟨h1, _⟩ | ⟨b, cap, cur, h1, _, _, h2, h3, _⟩
    · cases h1; exact .inl ⟨rfl, rfl⟩
    · cases h1; exact .inr ⟨b, rfl, h2, h3⟩)
  have HB2 := Lib.hid (HB1.out.trans (hb2.mono HB1.out.size))
  have HZ2 := Lib.hid (HZ.out.next hb2)
  clear ho2 hb2 HZ HB1 HM z1
  obtain ⟨b3, B3, z3⟩ := boxed0 w2 [.int .i64 (N : Int), .slice q n d] 25
  go_upto_region 2 with fail
  obtain ⟨w3, hw3⟩ : ∃ w3 : World, w3 = w2.alloc (.cells #[.int .i64 (N : Int), .slice q n d] 25) := ⟨_, rfl⟩
  obtain ⟨g3, hg3⟩ : ∃ g3, g3 = w2.heap.size := ⟨_, rfl⟩
  have e3 : (w2.alloc (.cells (List.toArray [Value.int .i64 (N : Int), .slice q n d]) 25)) = w3 := hw3.symm
  rw [e3] at b3 B3 z3
  rw [← hg3] at B3
  rw [← hw3, ← hg3]
  have HS3 := Lib.hid (HS2.out.later b3)
  have HBX := Lib.hid B3
  have HB3 := Lib.hid (HB2.out.trans (b3.mono HB2.out.size))
  have HZ3 := Lib.hid (HZ2.out.next b3)
  obtain ⟨hx0, hx1, _, _⟩ := HBX.out.two
  obtain ⟨hz0, hz1, hz2, hz3, hf0, hf1, hf2, hf3⟩ := HZ3.out.four
  have hne : ¬ g3 = g := by rw [hg3]; have := HZ2.out.lt; omega
  have hne2 : ¬ g = g3 := fun e => hne e.symm
  clear hw3 hg3 e3 b3 B3 z3 HZ2 HS2 HB2
  go_region_held3 (fun w' => w'.cell? ⟨g3, 0, none⟩ = some (.int .i64 (N : Int)) ∧ w'.cell? ⟨g3, 1, none⟩ = some (.slice q n d))
    (first | (exact ⟨hx0, hx1⟩) | go_keep)
    (first
      | (go_at_call 11; (with_reducible refine (HPK.out _ _ _ (by first | exact HR1.out | exact HR2.out) w3.drew).mono ?_); rintro e w9 ⟨rfl, rfl⟩)
      | fail)
  have hwr : IntKind.i64.wrap (1 + ((pickN a2 3 : Nat) : Int)) = (kd : Int) := by rw [HKD2.out]; exact IntWalk.i64_in _ (by omega)
  rw [hwr, HSR.out]
  clear hwr
  have HB4 := Lib.hid (Below.drew ((((HB3.out.setCell (p := ⟨g, 0, none⟩) (by have := HGE.out; show w.heap.size ≤ g; omega) (.int .i64 (N : Int))).setCell (p := ⟨g, 1, none⟩) (by have := HGE.out; show w.heap.size ≤ g; omega) (.slice q n d)).setCell (p := ⟨g, 2, none⟩) (by have := HGE.out; show w.heap.size ≤ g; omega) (.int .i64 (kd : Int))).setCell (p := ⟨g, 3, none⟩) (by have := HGE.out; show w.heap.size ≤ g; omega) (.int .i64 (sr : Int))))
  go_wp2_with fail
  refine bodyPost_ret (v := jobV q d n N kd (sr : Int)) ?_ rfl ⟨q, d, rfl, ⟨?_, HG.out, hN1, by omega, by have := HN10.out; omega, hk1, hk3, by omega, by omega⟩, HN10.out, HB4.out, HQS.out⟩
  · rw [results_cell1 rfl]
    go_simp
    rfl
  · exact (((((HS3.out.setCell (a := ⟨g, 0, none⟩) (Nat.lt_succ_self _) (.int .i64 (N : Int))).setCell (a := ⟨g, 1, none⟩) (Nat.lt_succ_self _) (.slice q n d)).setCell (a := ⟨g, 2, none⟩) (Nat.lt_succ_self _) (.int .i64 (kd : Int))).setCell (a := ⟨g, 3, none⟩) (Nat.lt_succ_self _) (.int .i64 (sr : Int))).later (Below.refl _ _).drew).1
end Go.Proofs.Ytiaflhlfodcbjaa
