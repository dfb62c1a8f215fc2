/- The walk of the law RoundsSteps. -/
import Derived.Test.YtiaflhlfodcbjaaJobOf
import Derived.Test.YtiaflhlfodcbjaaSameSt
namespace Go.Proofs.Ytiaflhlfodcbjaa
open Go.RowKit
/-- the state behind so many rounds -/
def stI (kind : Nat) (src : Int) (N : Nat) (E : List Eg) (i : Nat) : RSt := itF (nextF kind src N E) i (beginF N)
theorem stI_succ (kind : Nat) (src : Int) (N : Nat) (E : List Eg) (i : Nat) : stI kind src N E (i + 1) = nextF kind src N E (stI kind src N E i) := itF_succ _ _ _
theorem nextI_ok (p : Option Addr) (c n N kind : Nat) (src : Int) (E : List Eg) (v : Value) (i : Nat) (w : World) (h : JobOk w p c n N kind src E) (hE : E.length ≤ 10) (hv : RdSt w 0 N v (stI kind src N E i)) (hst : (stI kind src N E i).step ≤ 900 ∧ (kind = 1 → (stI kind src N E i).step ≤ 20)) :
    Calls Try.prog 12 #[jobV p c n N kind src, v] w fun e w' => ∃ v', e = .returned (.tuple #[v', .int .i64 0]) ∧ RdSt w' w.heap.size N v' (stI kind src N E (i + 1)) ∧ Below w.heap.size w w' := by
  rw [stI_succ]
  exact next_ok p c n N kind src E v _ w h hv (it_good h.g ⟨h.N1, h.N10⟩ (by omega) i).1 hst
/-- what is known of the states of a run -/
structure RunI (kind : Nat) (src : Int) (N : Nat) (E : List Eg) (K : Nat) : Prop where
  K1 : 1 ≤ K
  K2 : K ≤ 150
  good : ∀ i, GoodS kind N (stI kind src N E i)
  dn : (stI kind src N E K).done = true
  yet : ∀ i, i < K → (stI kind src N E i).done = false
  st : ∀ i, i ≤ K → (stI kind src N E i).step = i
  top : ∀ i, (stI kind src N E i).step ≤ 900 ∧ (kind = 1 → (stI kind src N E i).step ≤ 20)
  stay : stI kind src N E (K + 1) = stI kind src N E K
theorem runI {kind N K : Nat} {src : Int} {E : List Eg} (hK : RunsIn kind src N E K) (hG : InG N E) (hN : 1 ≤ N ∧ N ≤ 6) (hE : E.length ≤ 20) : RunI kind src N E K := by
  have h5 : N * (2 * N + 3) ≤ 6 * 15 := Nat.mul_le_mul hN.2 (by omega)
  have h6 := hK.K5
  have hd := hK.ends.last.1
  have hy := hK.ends.yet
  have hgd := fun i => it_good (kind := kind) (src := src) hG ⟨hN.1, by omega⟩ hE i
  have hs : ∀ i, i ≤ K → (stI kind src N E i).step = i := by
    intro i
    induction i with
    | zero => exact fun _ => rfl
    | succ i ih =>
      intro hi
      rw [stI_succ, next_step, if_neg (by have h1 := hy i (by omega); unfold stI; simp [h1]), ih (by omega)]
  have hstay : stI kind src N E (K + 1) = stI kind src N E K := by
    rw [stI_succ]; exact it_stay hd
  have hall : ∀ i, stI kind src N E (K + i) = stI kind src N E K := by
    intro i
    induction i with
    | zero => rfl
    | succ i ih => rw [← Nat.add_assoc, stI_succ, ih]; exact it_stay hd
  have hle : ∀ i, (stI kind src N E i).step ≤ K := by
    intro i
    by_cases h : i ≤ K
    · rw [hs i h]; exact h
    · have := hall (i - K)
      rw [show K + (i - K) = i by omega] at this
      rw [this, hs K (Nat.le_refl _)]; exact Nat.le_refl _
  refine ⟨hK.K1, by omega, fun i => (hgd i).1, hd, hy, hs, fun i => ⟨by have := hle i; omega, fun h => ?_⟩, hstay⟩
  have h1 := hle i
  have h2 := hK.K3 h
  omega
set_option maxHeartbeats 16000000 in
set_option maxRecDepth 100000 in
theorem roundsSteps_walk (w : World) (a0 : Int) (ha0 : -9223372036854775808 ≤ a0) (ha1 : a0 ≤ 9223372036854775807) (v1 : Value) (l1 : List (List Int)) (h1 : IsR 3 w v1 l1) (a2 : Int) (ha2 : -9223372036854775808 ≤ a2) (ha3 : a2 ≤ 9223372036854775807) (a3 : Int) (ha4 : -9223372036854775808 ≤ a3) (ha5 : a3 ≤ 9223372036854775807) (a4 : Int) (ha6 : -9223372036854775808 ≤ a4) (ha7 : a4 ≤ 9223372036854775807) :
    Calls Try.prog 4 #[.int .i64 a0, v1, .int .i64 a2, .int .i64 a3, .int .i64 a4] w fun e w' => e = .returned (.bool true) ∧ Below w.heap.size w w' := by
  obtain ⟨p1, c1, rfl⟩ := h1.val
  obtain ⟨N, hN⟩ : ∃ N, N = 1 + pickN a0 6 := ⟨_, rfl⟩
  obtain ⟨E, hE⟩ : ∃ E, E = edgesL N l1 := ⟨_, rfl⟩
  obtain ⟨kd, hkd⟩ : ∃ kd, kd = 1 + pickN a2 3 := ⟨_, rfl⟩
  obtain ⟨sr, hsr⟩ : ∃ sr, sr = pickN a3 N := ⟨_, rfl⟩
  have HJO := Lib.hid (jobOf_ok a0 a2 a3 p1 _ c1 N kd sr l1 E w ha0 ha1 ha2 ha3 ha4 ha5 h1 hN hE hkd hsr)
  have hpk := pickN_lt a0 (m := 6) (by decide)
  have hN6 : N ≤ 6 := by omega
  have HPK := Lib.hid (fun W => picked_i a4 4 4 W rfl ha6 ha7 (by omega) (by omega))
  have hpm := pickN_lt a4 (m := 4) (by decide)
  generalize pickN a4 4 = pm at HPK hpm
  clear h1 ha0 ha1 ha2 ha3 ha4 ha5 ha6 ha7 hN hE hkd hsr hpk
  obtain ⟨n, hn⟩ : ∃ n, n = E.length := ⟨_, rfl⟩
  rw [← hn] at HJO
  have HN := Lib.hid hn
  clear hn
  go_enter Try.func4, Try.ntmps4
  go_wp2_with fail
  refine HJO.out.mono ?_; rintro e w1 ⟨q, d, rfl, hj, hE10, hb1, -⟩
  obtain ⟨K, hK⟩ := runs_in (src := (sr : Int)) ⟨hj.k1, hj.k3⟩ hj.g ⟨hj.N1, hj.N10⟩
  have HRI := Lib.hid hK
  have HI := Lib.hid (runI hK hj.g ⟨hj.N1, hN6⟩ (by have := HN.out; omega))
  have hK1 := HI.out.K1
  have hK150 := HI.out.K2
  have HJ := Lib.hid hj
  have HB1 := Lib.hid hb1
  have HE10 := Lib.hid hE10
  clear hj hb1 hK HJO hE10
  unfold jobV at *
  obtain ⟨b2, B2, z2⟩ := boxed0 w1 [.int .i64 (N : Int), .slice q n d, .int .i64 (kd : Int), .int .i64 (sr : Int)] 27
  go_upto_region 2 with fail
  obtain ⟨w2, hw2⟩ : ∃ w2 : World, w2 = w1.alloc (.cells #[.int .i64 (N : Int), .slice q n d, .int .i64 (kd : Int), .int .i64 (sr : Int)] 27) := ⟨_, rfl⟩
  obtain ⟨g2, hg2⟩ : ∃ g2, g2 = w1.heap.size := ⟨_, rfl⟩
  have e2 : (w1.alloc (.cells (List.toArray [Value.int .i64 (N : Int), .slice q n d, .int .i64 (kd : Int), .int .i64 (sr : Int)]) 27)) = w2 := hw2.symm
  rw [e2] at b2 B2 z2
  rw [← hg2] at B2
  rw [← hw2, ← hg2]
  have HJ2 := Lib.hid (HJ.out.later b2)
  have HJX := Lib.hid B2
  have HB2 := Lib.hid (HB1.out.trans (b2.mono HB1.out.size))
  have HRUN := Lib.hid (fun (W : World) (hW : Below w2.heap.size w2 W) => run_ok q d n N kd K (sr : Int) E W (HJ2.out.later hW) (by have := HE10.out; have := HN.out; omega) HRI.out)
  have HBG := Lib.hid (fun (W : World) (hW : Below w2.heap.size w2 W) => begin_ok q d n N kd (sr : Int) E W (HJ2.out.later hW))
  have HNX := Lib.hid (fun (v : Value) (i : Nat) (W : World) (hW : Below w2.heap.size w2 W) (hv : RdSt W 0 N v (stI kd (sr : Int) N E i)) => nextI_ok q d n N kd (sr : Int) E v i W (HJ2.out.later hW) (by have := HE10.out; have := HN.out; omega) hv (HI.out.top i))
  have HSS := Lib.hid (fun (v u : Value) (i : Nat) (W : World) (hv : RdSt W 0 N v (stI kd (sr : Int) N E i)) (hu : RdSt W 0 N u (stI kd (sr : Int) N E i)) => sameState_true N kd 0 0 v u _ W hv hu (HI.out.good i) (by omega) (HI.out.top i).1)
  have HBW := Lib.hid HB2.out
  have HDN := Lib.hid HI.out.dn
  have HST := Lib.hid HI.out.st
  have HYT := Lib.hid HI.out.yet
  have HSY := Lib.hid HI.out.stay
  have hs0 : stI kd (sr : Int) N E 0 = beginF N := rfl
  have HS0 := Lib.hid hs0
  have hsK : stI kd (sr : Int) N E K = itF (nextF kd (sr : Int) N E) K (beginF N) := rfl
  have HSK := Lib.hid hsK
  clear hw2 hg2 e2 b2 B2 z2 HJ HB1 HRI HI HE10 hs0 hsK
  unfold jobV at *
  obtain ⟨S, hS⟩ : ∃ S : Nat → RSt, S = stI kd (sr : Int) N E := ⟨_, rfl⟩
  rw [← hS] at HNX HSS HDN HST HYT HSY HS0 HSK
  rw [← HSK.out] at HRUN
  rw [← HS0.out] at HBG
  clear hS HSK HS0
  obtain ⟨hx0, hx1, hx2, hx3, _⟩ := HJX.out.four
  go_wp2_with fail
  refine (HRUN.out _ (Below.refl _ _)).mono ?_; rintro e w3 ⟨v3, rfl, hs3, hb3⟩
  obtain ⟨pv, pm', cv, cm, rfl, hsv, hsm, hvl⟩ := hs3
  have HSF := Lib.hid (show RdSt w3 0 N (.agg #[.int .i64 ((S K).step : Int), .int .i64 ((S K).phase : Int), .bool (S K).fresh, .bool (S K).done, .slice pv N cv, .slice pm' N cm]) (S K) from RdSt.mono (B := w2.heap.size) ⟨pv, pm', cv, cm, rfl, hsv, hsm, hvl⟩ (Nat.zero_le _))
  have HB3 := Lib.hid hb3
  have HJX3 := Lib.hid (HJX.out.next hb3)
  clear hsv hsm hvl hb3 hx0 hx1 hx2 hx3 HRUN HJX
  obtain ⟨FV, hFV⟩ : ∃ FV : List Value, FV = [.int .i64 ((S K).step : Int), .int .i64 ((S K).phase : Int), .bool (S K).fresh, .bool (S K).done, .slice pv N cv, .slice pm' N cm] := ⟨_, rfl⟩
  obtain ⟨b4, B4, z4⟩ := boxed0 w3 [.int .i64 ((S K).step : Int), .int .i64 ((S K).phase : Int), .bool (S K).fresh, .bool (S K).done, .slice pv N cv, .slice pm' N cm] 32
  go_upto_region 3 with fail
  obtain ⟨w4, hw4⟩ : ∃ w4 : World, w4 = w3.alloc (.cells #[.int .i64 ((S K).step : Int), .int .i64 ((S K).phase : Int), .bool (S K).fresh, .bool (S K).done, .slice pv N cv, .slice pm' N cm] 32) := ⟨_, rfl⟩
  obtain ⟨g4, hg4⟩ : ∃ g4, g4 = w3.heap.size := ⟨_, rfl⟩
  have e4 : (w3.alloc (.cells (List.toArray [Value.int .i64 ((S K).step : Int), .int .i64 ((S K).phase : Int), .bool (S K).fresh, .bool (S K).done, .slice pv N cv, .slice pm' N cm]) 32)) = w4 := hw4.symm
  rw [e4] at b4 B4 z4
  rw [← hg4] at B4
  rw [← hw4, ← hg4]
  have HSF4 := Lib.hid (HSF.out.later b4)
  have HFX4 := Lib.hid B4
  have HJX4 := Lib.hid (HJX3.out.next b4)
  have HB4 := Lib.hid (HB3.out.trans (b4.mono HB3.out.size))
  clear hw4 hg4 e4 b4 B4 z4 HSF HB3 HJX3 hFV FV
  obtain ⟨hx0, hx1, hx2, hx3, _⟩ := HJX4.out.four
  go_wp2_with fail
  refine (HBG.out _ HB4.out).mono ?_; rintro e w5 ⟨v5, rfl, hs5, hb5⟩
  obtain ⟨pv0, pm0, cv0, cm0, rfl, hsv, hsm, hvl⟩ := hs5
  have HSB := Lib.hid (show RdSt w5 0 N (.agg #[.int .i64 ((S 0).step : Int), .int .i64 ((S 0).phase : Int), .bool (S 0).fresh, .bool (S 0).done, .slice pv0 N cv0, .slice pm0 N cm0]) (S 0) from RdSt.mono (B := w4.heap.size) ⟨pv0, pm0, cv0, cm0, rfl, hsv, hsm, hvl⟩ (Nat.zero_le _))
  have HSF5 := Lib.hid (HSF4.out.later hb5)
  have HFX5 := Lib.hid (HFX4.out.next hb5)
  have HJX5 := Lib.hid (HJX4.out.next hb5)
  have HB5 := Lib.hid (HB4.out.trans (hb5.mono HB4.out.size))
  clear hsv hsm hvl hb5 hx0 hx1 hx2 hx3 HBG HSF4 HFX4 HJX4 HB4
  obtain ⟨b6, B6, z6⟩ := boxed0 w5 [.int .i64 ((S 0).step : Int), .int .i64 ((S 0).phase : Int), .bool (S 0).fresh, .bool (S 0).done, .slice pv0 N cv0, .slice pm0 N cm0] 32
  go_upto_region 4 with fail
  obtain ⟨w6, hw6⟩ : ∃ w6 : World, w6 = w5.alloc (.cells #[.int .i64 ((S 0).step : Int), .int .i64 ((S 0).phase : Int), .bool (S 0).fresh, .bool (S 0).done, .slice pv0 N cv0, .slice pm0 N cm0] 32) := ⟨_, rfl⟩
  obtain ⟨g6, hg6⟩ : ∃ g6, g6 = w5.heap.size := ⟨_, rfl⟩
  have e6 : (w5.alloc (.cells (List.toArray [Value.int .i64 ((S 0).step : Int), .int .i64 ((S 0).phase : Int), .bool (S 0).fresh, .bool (S 0).done, .slice pv0 N cv0, .slice pm0 N cm0]) 32)) = w6 := hw6.symm
  rw [e6] at b6 B6 z6
  have HHB := Lib.hid (held_old (g := g6) HSB.out b6 (by rw [hg6]; exact Nat.le_refl _))
  have HHF := Lib.hid (held_old (g := g6) HSF5.out b6 (by rw [hg6]; exact Nat.le_refl _))
  rw [← hg6] at B6
  rw [← hw6, ← hg6]
  have HSX6 := Lib.hid B6
  have HFX6 := Lib.hid (HFX5.out.next b6)
  have HJX6 := Lib.hid (HJX5.out.next b6)
  have HB6 := Lib.hid (HB5.out.trans (b6.mono HB5.out.size))
  have h46 : g4 < g6 := by rw [hg6]; exact HFX5.out.lt
  have h26 : g2 < g6 := by rw [hg6]; exact HJX5.out.lt
  have h2w6 : w2.heap.size ≤ g6 := by rw [hg6]; exact HB5.out.size
  clear hw6 hg6 e6 b6 B6 z6 HSB HSF5 HFX5 HJX5 HB5
  go_wp2_with fail
  go_loopg [16] K (fun gk v16 wr => ∃ i : Nat, v16 = .int .i64 (i : Int) ∧ i + gk = K ∧ Hid (∃ (pv pm : Option Addr) (cv cm : Nat), Bx wr g6 [.int .i64 ((S i).step : Int), .int .i64 ((S i).phase : Int), .bool (S i).fresh, .bool (S i).done, .slice pv N cv, .slice pm N cm] ∧ HeldSt wr g6 0 N (.agg #[.int .i64 ((S i).step : Int), .int .i64 ((S i).phase : Int), .bool (S i).fresh, .bool (S i).done, .slice pv N cv, .slice pm N cm]) (S i)) ∧ Hid (HeldSt wr g6 0 N (.agg #[.int .i64 ((S K).step : Int), .int .i64 ((S K).phase : Int), .bool (S K).fresh, .bool (S K).done, .slice pv N cv, .slice pm' N cm]) (S K)) ∧ Hid (Bx wr g4 [.int .i64 ((S K).step : Int), .int .i64 ((S K).phase : Int), .bool (S K).fresh, .bool (S K).done, .slice pv N cv, .slice pm' N cm]) ∧ Hid (Bx wr g2 [.int .i64 (N : Int), .slice q n d, .int .i64 (kd : Int), .int .i64 (sr : Int)]) ∧ Hid (Below w2.heap.size w2 wr) ∧ g6 < wr.heap.size)
  case atStart => exact ⟨0, rfl, by omega, Lib.hid ⟨_, _, _, _, HSX6.out, HHB.out⟩, HHF, HFX6, HJX6, HB6, HSX6.out.lt⟩
  case round =>
    clear HSX6 HHB HHF HFX6 HJX6 HB6
    obtain ⟨i, rfl, hgi, HSS', HHF, HFX, HJX, HB, hsz⟩ := hrel
    obtain ⟨pvi, pmi, cvi, cmi, hbx, hhs⟩ := HSS'.out
    have HSX := Lib.hid hbx
    have HHS := Lib.hid hhs
    have HGI := Lib.hid hgi
    have hi : i ≤ K := by omega
    clear hbx hhs HSS' hgi
    obtain ⟨hx0, hx1, hx2, hx3, _⟩ := HJX.out.four
    have hi200 : decide ((i : Int) < 200) = true := by simp; omega
    by_cases hlt : i < K
    · have hdn := HYT.out i hlt
      have hst1 := HST.out i hi
      have hst2 := HST.out (i + 1) hlt
      have HN1 := Lib.hid (HNX.out _ i wr HB.out HHS.out.now)
      rw [hdn] at HSX HN1
      rw [hst1] at HSX HN1
      obtain ⟨ht0, ht1, ht2, ht3, ht4, ht5⟩ := HSX.out.six
      have HST2 := Lib.hid hst2
      have HLT := Lib.hid hlt
      clear hdn hst1 hst2 hlt HHS
      go_wp2_with fail
      refine HN1.out.mono ?_; rintro e w7 ⟨v7, rfl, hs7, hb7⟩
      obtain ⟨pv7, pm7, cv7, cm7, rfl, hsv, hsm, hvl⟩ := hs7
      have HS7 := Lib.hid (show RdSt w7 wr.heap.size N (.agg #[.int .i64 ((S (i + 1)).step : Int), .int .i64 ((S (i + 1)).phase : Int), .bool (S (i + 1)).fresh, .bool (S (i + 1)).done, .slice pv7 N cv7, .slice pm7 N cm7]) (S (i + 1)) from ⟨pv7, pm7, cv7, cm7, rfl, hsv, hsm, hvl⟩)
      have HHF7 := Lib.hid (HHF.out.next (grown_belowS hb7))
      have HFX7 := Lib.hid (HFX.out.next hb7)
      have HJX7 := Lib.hid (HJX.out.next hb7)
      have HSX7 := Lib.hid (HSX.out.next hb7)
      have HB7 := Lib.hid (HB.out.trans (hb7.mono HB.out.size))
      have hsz7 : g6 < w7.heap.size := Nat.lt_of_lt_of_le hsz hb7.size
      clear hsv hsm hvl hb7 HN1 hx0 hx1 hx2 hx3 ht0 ht1 ht2 ht3 ht4 ht5 HHF HFX HJX HSX HB
      obtain ⟨b8, B8, z8⟩ := boxed0 w7 [.int .i64 ((S (i + 1)).step : Int), .int .i64 ((S (i + 1)).phase : Int), .bool (S (i + 1)).fresh, .bool (S (i + 1)).done, .slice pv7 N cv7, .slice pm7 N cm7] 32
      go_upto_region 8 with fail
      obtain ⟨w8, hw8⟩ : ∃ w8 : World, w8 = w7.alloc (.cells #[.int .i64 ((S (i + 1)).step : Int), .int .i64 ((S (i + 1)).phase : Int), .bool (S (i + 1)).fresh, .bool (S (i + 1)).done, .slice pv7 N cv7, .slice pm7 N cm7] 32) := ⟨_, rfl⟩
      obtain ⟨g8, hg8⟩ : ∃ g8, g8 = w7.heap.size := ⟨_, rfl⟩
      have e8 : (w7.alloc (.cells (List.toArray [Value.int .i64 ((S (i + 1)).step : Int), .int .i64 ((S (i + 1)).phase : Int), .bool (S (i + 1)).fresh, .bool (S (i + 1)).done, .slice pv7 N cv7, .slice pm7 N cm7]) 32)) = w8 := hw8.symm
      rw [e8] at b8 B8 z8
      have HS8 := Lib.hid ((held_new (g := g6) HS7.out hsz).next (grown_belowS b8))
      have HHF8 := Lib.hid (HHF7.out.next (grown_belowS b8))
      have HFX8 := Lib.hid (HFX7.out.next b8)
      have HJX8 := Lib.hid (HJX7.out.next b8)
      have HSX8 := Lib.hid (HSX7.out.next b8)
      have HB8 := Lib.hid (HB7.out.trans (b8.mono HB7.out.size))
      have hsz8 : g6 < w8.heap.size := Nat.lt_of_lt_of_le hsz7 b8.size
      rw [← hg8] at B8
      rw [← hw8, ← hg8]
      have HNX8 := Lib.hid B8
      have h86 : ¬ g8 = g6 := by omega
      have h68 : ¬ g6 = g8 := by omega
      clear hw8 hg8 e8 b8 B8 z8 HS7 HHF7 HFX7 HJX7 HSX7 HB7 hsz7 hsz
      have hst2 := HST2.out
      rw [hst2] at HNX8
      obtain ⟨ht0, ht1, ht2, ht3, ht4, ht5⟩ := HNX8.out.six
      obtain ⟨hy0, hy1, hy2, hy3, hy4, hy5⟩ := HSX8.out.six
      obtain ⟨hf0, hf1, hf2, hf3, hf4, hf5⟩ := HSX8.out.sixF
      have hne : (((i + 1 : Nat) : Int) != (i : Int) + 1) = false := by simp
      clear hst2
      go_wp2_with fail
      go_roundg (K - (i + 1))
      case measure => have := HGI.out; have := HLT.out; omega
      case rel =>
        refine ⟨i + 1, by go_num, by have := HLT.out; omega, Lib.hid ⟨pv7, pm7, cv7, cm7, by rw [HST2.out]; exact bx6 HSX8.out _ _ _ _ _ _, ?_⟩, Lib.hid (HHF8.out.next (grown6 _ _ _ _ _ _)), Lib.hid (bx6o HFX8.out (by omega) _ _ _ _ _ _), Lib.hid (bx6o HJX8.out (by omega) _ _ _ _ _ _), Lib.hid (setc6 HB8.out h2w6 _ _ _ _ _ _), by simp [World.setCell]; exact hsz8⟩
        exact (HS8.out.next (grown6 _ _ _ _ _ _)).mono (Nat.zero_le _)
    · obtain rfl : i = K := by omega
      have hdn := HDN.out
      have hstk := HST.out i (Nat.le_refl _)
      rw [hdn, hstk] at HSX HHS HFX HHF ⊢
      have hdn2 := hdn
      obtain ⟨ht0, ht1, ht2, ht3, ht4, ht5⟩ := HSX.out.six
      clear hdn hlt
      obtain ⟨wo, rfl⟩ : ∃ wo : World, wo = wr := ⟨_, rfl⟩
      have HSYI := Lib.hid (HSY.out)
      have HN1 := Lib.hid (fun (W : World) (hW : Below w2.heap.size w2 W) hv => HNX.out (.agg #[.int .i64 (i : Int), .int .i64 ((S i).phase : Int), .bool (S i).fresh, .bool true, .slice pvi N cvi, .slice pmi N cmi]) i W hW hv)
      rw [HSYI.out] at HN1
      have HDN2 := Lib.hid hdn2
      have HSTK := Lib.hid hstk
      clear HNX HST HYT HSY HSYI HGI hi hstk hdn2
      go_wp2_with fail
      go_loopg [19] pm (fun gk v19 wr => ∃ j : Nat, v19 = .int .i64 (j : Int) ∧ j + gk = pm ∧ Hid (Bx wr g6 [.int .i64 (i : Int), .int .i64 ((S i).phase : Int), .bool (S i).fresh, .bool true, .slice pvi N cvi, .slice pmi N cmi]) ∧ Hid (HeldSt wr g6 0 N (.agg #[.int .i64 (i : Int), .int .i64 ((S i).phase : Int), .bool (S i).fresh, .bool true, .slice pvi N cvi, .slice pmi N cmi]) (S i)) ∧ Hid (HeldSt wr g6 0 N (.agg #[.int .i64 (i : Int), .int .i64 ((S i).phase : Int), .bool (S i).fresh, .bool true, .slice pv N cv, .slice pm' N cm]) (S i)) ∧ Hid (Bx wr g4 [.int .i64 (i : Int), .int .i64 ((S i).phase : Int), .bool (S i).fresh, .bool true, .slice pv N cv, .slice pm' N cm]) ∧ Hid (Bx wr g2 [.int .i64 (N : Int), .slice q n d, .int .i64 (kd : Int), .int .i64 (sr : Int)]) ∧ Hid (Below w2.heap.size w2 wr) ∧ g6 < wr.heap.size)
      case atStart => exact ⟨0, rfl, by omega, HSX, HHS, HHF, HFX, HJX, HB, hsz⟩
      case round =>
        clear HSX HHS HHF HFX HJX HB hsz hx0 hx1 hx2 hx3 ht0 ht1 ht2 ht3 ht4 ht5
        obtain ⟨j, rfl, hgj, HSX, HHS, HHF, HFX, HJX, HB, hsz⟩ := hrel
        have HGJ := Lib.hid hgj
        have hj : j ≤ pm := by omega
        clear hgj
        obtain ⟨hx0, hx1, hx2, hx3, _⟩ := HJX.out.four
        obtain ⟨ht0, ht1, ht2, ht3, ht4, ht5⟩ := HSX.out.six
        by_cases hlt : j < pm
        · have hd1 : decide ((j : Int) < (pm : Int)) = true := by simp; omega
          have HN2 := Lib.hid (HN1.out wr HB.out HHS.out.now)
          have HLT := Lib.hid hlt
          clear hlt
          go_wp2_with fail
          refine (HPK.out _).mono ?_; rintro e w7 ⟨rfl, rfl⟩
          go_wp2_with fail
          refine HN2.out.mono ?_; rintro e w7 ⟨v7, rfl, hs7, hb7⟩
          obtain ⟨pv7, pm7, cv7, cm7, rfl, hsv, hsm, hvl⟩ := hs7
          have HS7 := Lib.hid (show RdSt w7 wr.heap.size N (.agg #[.int .i64 ((S i).step : Int), .int .i64 ((S i).phase : Int), .bool (S i).fresh, .bool (S i).done, .slice pv7 N cv7, .slice pm7 N cm7]) (S i) from ⟨pv7, pm7, cv7, cm7, rfl, hsv, hsm, hvl⟩)
          rw [HDN2.out, HSTK.out] at HS7 ⊢
          have HHF7 := Lib.hid (HHF.out.next (grown_belowS hb7))
          have HHS7 := Lib.hid (HHS.out.next (grown_belowS hb7))
          have HFX7 := Lib.hid (HFX.out.next hb7)
          have HJX7 := Lib.hid (HJX.out.next hb7)
          have HSX7 := Lib.hid (HSX.out.next hb7)
          have HB7 := Lib.hid (HB.out.trans (hb7.mono HB.out.size))
          have hsz7 : g6 < w7.heap.size := Nat.lt_of_lt_of_le hsz hb7.size
          clear hsv hsm hvl hb7 HN2 hx0 hx1 hx2 hx3 ht0 ht1 ht2 ht3 ht4 ht5 HHF HHS HFX HJX HSX HB hsz
          obtain ⟨b8, B8, z8⟩ := boxed0 w7 [.int .i64 (i : Int), .int .i64 ((S i).phase : Int), .bool (S i).fresh, .bool true, .slice pv7 N cv7, .slice pm7 N cm7] 32
          go_upto_region 15 with fail
          obtain ⟨w8, hw8⟩ : ∃ w8 : World, w8 = w7.alloc (.cells #[.int .i64 (i : Int), .int .i64 ((S i).phase : Int), .bool (S i).fresh, .bool true, .slice pv7 N cv7, .slice pm7 N cm7] 32) := ⟨_, rfl⟩
          obtain ⟨g8, hg8⟩ : ∃ g8, g8 = w7.heap.size := ⟨_, rfl⟩
          have e8 : (w7.alloc (.cells (List.toArray [Value.int .i64 (i : Int), .int .i64 ((S i).phase : Int), .bool (S i).fresh, .bool true, .slice pv7 N cv7, .slice pm7 N cm7]) 32)) = w8 := hw8.symm
          rw [e8] at b8 B8 z8
          have HS8 := Lib.hid ((HS7.out.later b8).mono (Nat.zero_le _))
          have HHF8 := Lib.hid (HHF7.out.next (grown_belowS b8))
          have HHS8 := Lib.hid (HHS7.out.next (grown_belowS b8))
          have HFX8 := Lib.hid (HFX7.out.next b8)
          have HJX8 := Lib.hid (HJX7.out.next b8)
          have HSX8 := Lib.hid (HSX7.out.next b8)
          have HB8 := Lib.hid (HB7.out.trans (b8.mono HB7.out.size))
          have hsz8 : g6 < w8.heap.size := Nat.lt_of_lt_of_le hsz7 b8.size
          rw [← hg8] at B8
          rw [← hw8, ← hg8]
          have HNX8 := Lib.hid B8
          clear hw8 hg8 e8 b8 B8 z8 HS7 HHF7 HHS7 HFX7 HJX7 HSX7 HB7 hsz7
          obtain ⟨ht0, ht1, ht2, ht3, ht4, ht5⟩ := HNX8.out.six
          obtain ⟨hy0, hy1, hy2, hy3, hy4, hy5⟩ := HSX8.out.six
          have HQ := Lib.hid (HSS.out _ _ i w8 HS8.out HHS8.out.now)
          go_wp2_with fail
          refine HQ.out.mono ?_; rintro e w9 ⟨rfl, hb9⟩
          have HHF9 := Lib.hid (HHF8.out.next (grown_belowS hb9))
          have HHS9 := Lib.hid (HHS8.out.next (grown_belowS hb9))
          have HFX9 := Lib.hid (HFX8.out.next hb9)
          have HJX9 := Lib.hid (HJX8.out.next hb9)
          have HSX9 := Lib.hid (HSX8.out.next hb9)
          have HB9 := Lib.hid (HB8.out.trans (hb9.mono HB8.out.size))
          have hsz9 : g6 < w9.heap.size := Nat.lt_of_lt_of_le hsz8 hb9.size
          clear hb9 HQ HHF8 HHS8 HFX8 HJX8 HSX8 HB8 hsz8
          go_wp2_with fail
          go_roundg (pm - (j + 1))
          case measure => have := HGJ.out; have := HLT.out; omega
          case rel => exact ⟨j + 1, by go_num, by have := HLT.out; omega, HSX9, HHS9, HHF9, HFX9, HJX9, HB9, hsz9⟩
        · obtain rfl : j = pm := by omega
          have hd1 : decide ((j : Int) < (j : Int)) = false := by simp
          obtain ⟨hy0, hy1, hy2, hy3, hy4, hy5⟩ := HFX.out.six
          have HQ := Lib.hid (HSS.out _ _ i wr HHS.out.now HHF.out.now)
          have HSX1 := Lib.hid (show ∀ W, Below wr.heap.size wr W → Bx W g6 _ from fun W hW => HSX.out.next hW)
          have hgt : decide (0 < i) = true := by simp; omega
          clear hlt
          go_wp2_with fail
          refine (HPK.out _).mono ?_; rintro e w7 ⟨rfl, rfl⟩
          go_wp2_with fail
          refine HQ.out.mono ?_; rintro e w9 ⟨rfl, hb9⟩
          obtain ⟨ht0, ht1, ht2, ht3, ht4, ht5⟩ := (HSX1.out _ hb9).six
          have HB9 := Lib.hid (HB.out.trans (hb9.mono HB.out.size))
          clear hb9
          go_wp2_with fail
          go_ret
          exact ⟨rfl, HBW.out.trans (HB9.out.mono HBW.out.size)⟩
end Go.Proofs.Ytiaflhlfodcbjaa
