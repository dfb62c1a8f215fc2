/- The walk of rounds.Run. -/
import Derived.Test.YtiaflhlfodcbjaaRdX
import Derived.Test.YtiaflhlfodcbjaaPRndS
namespace Go.Proofs.Ytiaflhlfodcbjaa
open Go.RowKit
/-- so many rounds on -/
def itF (nx : RSt → RSt) : Nat → RSt → RSt
  | 0, s => s
  | k + 1, s => itF nx k (nx s)
theorem itF_succ (nx : RSt → RSt) : ∀ (k : Nat) (s : RSt), itF nx (k + 1) s = nx (itF nx k s)
  | 0, _ => rfl
  | k + 1, s => itF_succ nx k (nx s)
theorem EndsIn.last {nx : RSt → RSt} {Q : RSt → Prop} {k : Nat} {s : RSt} (h : EndsIn nx Q k s) : (itF nx k s).done = true ∧ Q (itF nx k s) := by
  induction h with
  | stop h1 h2 => exact ⟨h1, h2⟩
  | go _ _ ih => exact ih
theorem EndsIn.yet {nx : RSt → RSt} {Q : RSt → Prop} {k : Nat} {s : RSt} (h : EndsIn nx Q k s) : ∀ i, i < k → (itF nx i s).done = false := by
  induction h with
  | stop _ _ => intro i hi; omega
  | go h1 _ ih =>
    intro i hi
    cases i with
    | zero => exact h1
    | succ i => exact ih i (by omega)
theorem next_step {kind : Nat} {src : Int} {N : Nat} {E : List Eg} (s : RSt) : (nextF kind src N E s).step = if s.done = true then s.step else s.step + 1 := by
  by_cases hd : s.done = true
  · rw [if_pos hd]; unfold nextF; rw [if_pos hd]
  · rw [if_neg hd]; exact (nextF_vals (by simpa using hd)).2.2
theorem it_good {kind N : Nat} {src : Int} {E : List Eg} (hG : InG N E) (hN : 1 ≤ N ∧ N ≤ 10) (hE : E.length ≤ 20) : ∀ k, GoodS kind N (itF (nextF kind src N E) k (beginF N)) ∧ (itF (nextF kind src N E) k (beginF N)).step ≤ k
  | 0 => ⟨begin_good hN.1, Nat.le_refl _⟩
  | k + 1 => by
    obtain ⟨h1, h2⟩ := it_good hG hN hE k
    rw [itF_succ]
    refine ⟨next_good hG hN hE h1, ?_⟩
    rw [next_step]; split <;> omega
theorem EndsIn.steps {kind N : Nat} {src : Int} {E : List Eg} {Q : RSt → Prop} {k : Nat} {s : RSt} (h : EndsIn (nextF kind src N E) Q k s) : (itF (nextF kind src N E) k s).step = s.step + k := by
  induction h with
  | stop _ _ => rfl
  | @go k s h1 _ ih =>
    show (itF (nextF kind src N E) k (nextF kind src N E s)).step = _
    rw [ih, next_step, if_neg (by simp [h1])]; omega
/-- behind its end nothing changes -/
theorem it_stay {kind N : Nat} {src : Int} {E : List Eg} {s : RSt} (h : s.done = true) : nextF kind src N E s = s := by unfold nextF; rw [if_pos h]
/-- how many rounds a job takes -/
structure RunsIn (kind : Nat) (src : Int) (N : Nat) (E : List Eg) (K : Nat) : Prop where
  K1 : 1 ≤ K
  K2 : K ≤ 10 * 23
  K3 : kind = 1 → K ≤ N + 1
  K4 : kind = 2 → K ≤ N + 1
  K5 : K ≤ N * (2 * N + 3)
  ends : EndsIn (nextF kind src N E) (fun _ => True) K (beginF N)
theorem runs_in {kind N : Nat} {src : Int} {E : List Eg} (hk : 1 ≤ kind ∧ kind ≤ 3) (hG : InG N E) (hN : 1 ≤ N ∧ N ≤ 10) : ∃ K, RunsIn kind src N E K := by
  have h5 : N + 1 ≤ N * (2 * N + 3) := by
    have h : 1 * (2 * N + 3) ≤ N * (2 * N + 3) := Nat.mul_le_mul_right _ hN.1
    omega
  have h6 : N * (2 * N + 3) ≤ 10 * 23 := Nat.mul_le_mul hN.2 (by omega)
  by_cases h : kind = 3
  · subst h
    obtain ⟨K, h1, h2, h3⟩ := strong_run (src := src) hG hN.1
    exact ⟨K, h1, by omega, fun h => by omega, fun h => by omega, h2, h3.mono (fun _ _ => trivial)⟩
  · obtain ⟨K, h1, h2, h3⟩ := low_run (src := src) (kind := kind) (by omega) hG
    exact ⟨K, h1, by omega, fun _ => h2, fun _ => h2, by omega, h3.mono (fun _ _ => trivial)⟩
theorem RdB.grownF {w w' : World} {B size n g : Nat} {v : Value} {xs : List Value} (h : RdB w B size v n xs) (hg : w.grownBy w' (some g)) (hgB : g < B) : RdB w' B size v n xs := by
  obtain ⟨⟨p, c, rfl, h1, h2, h3, h4, h5⟩, h6⟩ := h
  refine ⟨⟨p, c, rfl, h1, h2, h3, h4, ?_⟩, h6⟩
  rcases h5 with h5 | ⟨b, off, rfl, h5⟩
  · exact .inl h5
  · refine .inr ⟨b, off, rfl, fun j u hj => ?_⟩
    have hc := h5 j u hj
    have hlt := World.block_lt_of_cell? w _ hc
    have he := hg.block b hlt (fun e => by have h7 := h6 b rfl; have h8 := Option.some.inj e; omega)
    rw [← hc]
    unfold World.cell?
    rw [he]
theorem RdSt.grownF {w w' : World} {B N g : Nat} {v : Value} {s : RSt} (h : RdSt w B N v s) (hg : w.grownBy w' (some g)) (hgB : g < B) : RdSt w' B N v s := by
  obtain ⟨pv, pm, cv, cm, rfl, h1, ⟨us, h2, h3, h4, h5⟩, h6⟩ := h
  exact ⟨pv, pm, cv, cm, rfl, h1.grownF hg hgB, ⟨us, h2, h3, h4.grownF hg hgB, fun i r u hr hu => (h5 i r u hr hu).grownF hg hgB⟩, h6⟩
/-- a state that may be read while box g is written -/
def HeldSt (w : World) (g B N : Nat) (v : Value) (s : RSt) : Prop := ∀ W, w.grownBy W (some g) → RdSt W B N v s
theorem HeldSt.now {w : World} {g B N : Nat} {v : Value} {s : RSt} (h : HeldSt w g B N v s) : RdSt w B N v s := h w (World.grownBy.refl _ _)
theorem HeldSt.next {w w' : World} {g B N : Nat} {v : Value} {s : RSt} (h : HeldSt w g B N v s) (hg : w.grownBy w' (some g)) : HeldSt w' g B N v s := fun W hW => h W (grown_trans hg hW)
theorem HeldSt.mono {w : World} {g B B' N : Nat} {v : Value} {s : RSt} (h : HeldSt w g B N v s) (hB : B' ≤ B) : HeldSt w g B' N v s := fun W hW => (h W hW).mono hB
/-- a state made behind box g -/
theorem held_new {w : World} {g B N : Nat} {v : Value} {s : RSt} (h : RdSt w B N v s) (hg : g < B) : HeldSt w g B N v s := fun _ hW => h.grownF hW hg
/-- a state that was there ahead of box g -/
theorem held_old {w w' : World} {g B N : Nat} {v : Value} {s : RSt} (h : RdSt w B N v s) (hb : Below w.heap.size w w') (hg : w.heap.size ≤ g) : HeldSt w' g B N v s := fun _ hW => h.later (hb.grown hW hb.size (fun k hk => by cases hk; exact hg))
end Go.Proofs.Ytiaflhlfodcbjaa
namespace Go.Proofs.Ytiaflhlfodcbjaa
open Go.RowKit
theorem grown6 {w : World} {g : Nat} (a b c d e f : Value) : w.grownBy ((((((w.setCell ⟨g, 0, none⟩ a).setCell ⟨g, 1, none⟩ b).setCell ⟨g, 2, none⟩ c).setCell ⟨g, 3, none⟩ d).setCell ⟨g, 4, none⟩ e).setCell ⟨g, 5, none⟩ f) (some g) :=
  grown_q (grown_q (grown_q (grown_q (grown_q (grown_q (World.grownBy.refl _ _) 0 a) 1 b) 2 c) 3 d) 4 e) 5 f
theorem bx6 {w : World} {g : Nat} {a b c d e f : Value} (h : Bx w g [a, b, c, d, e, f]) (a' b' c' d' e' f' : Value) : Bx ((((((w.setCell ⟨g, 0, none⟩ a').setCell ⟨g, 1, none⟩ b').setCell ⟨g, 2, none⟩ c').setCell ⟨g, 3, none⟩ d').setCell ⟨g, 4, none⟩ e').setCell ⟨g, 5, none⟩ f') g [a', b', c', d', e', f'] :=
  (((((h.setc 0 a').setc 1 b').setc 2 c').setc 3 d').setc 4 e').setc 5 f'
theorem bx6o {w : World} {g h : Nat} {cs : List Value} (hb : Bx w h cs) (hne : h ≠ g) (a b c d e f : Value) : Bx ((((((w.setCell ⟨g, 0, none⟩ a).setCell ⟨g, 1, none⟩ b).setCell ⟨g, 2, none⟩ c).setCell ⟨g, 3, none⟩ d).setCell ⟨g, 4, none⟩ e).setCell ⟨g, 5, none⟩ f) h cs :=
  bx_oth (bx_oth (bx_oth (bx_oth (bx_oth (bx_oth hb (a := ⟨g, 0, none⟩) hne a) (a := ⟨g, 1, none⟩) hne b) (a := ⟨g, 2, none⟩) hne c) (a := ⟨g, 3, none⟩) hne d) (a := ⟨g, 4, none⟩) hne e) (a := ⟨g, 5, none⟩) hne f
/-- the cells of a state -/
def stC (s : RSt) (pv pm : Option Addr) (N cv cm : Nat) : List Value := [.int .i64 (s.step : Int), .int .i64 (s.phase : Int), .bool s.fresh, .bool s.done, .slice pv N cv, .slice pm N cm]
set_option maxHeartbeats 8000000 in
set_option maxRecDepth 100000 in
theorem run_ok (p : Option Addr) (c n N kind K : Nat) (src : Int) (E : List Eg) (w : World) (h : JobOk w p c n N kind src E) (hE20 : E.length ≤ 20) (hK : RunsIn kind src N E K) :
    Calls Try.prog 15 #[jobV p c n N kind src] w fun e w' => ∃ v', e = .returned (.tuple #[v', .int .i64 0]) ∧ RdSt w' w.heap.size N v' (itF (nextF kind src N E) K (beginF N)) ∧ Below w.heap.size w w' := by
  have HBG := Lib.hid (fun (W : World) (hW : Below w.heap.size w W) => begin_ok p c n N kind src E W (h.later hW))
  have HNX := Lib.hid (fun (v : Value) (s : RSt) (W : World) (hW : Below w.heap.size w W) => next_ok p c n N kind src E v s W (h.later hW))
  have HGD := Lib.hid (fun s => next_good (kind := kind) (src := src) (s := s) h.g ⟨h.N1, h.N10⟩ hE20)
  have HB0 := Lib.hid (begin_good (kind := kind) h.N1)
  have hN1 := h.N1
  have hN10 := h.N10
  have HK := Lib.hid hK
  have hK230 := hK.K2
  clear h hK
  unfold jobV at *
  obtain ⟨b1, B1, z1⟩ := boxed0 w [.int .i64 (N : Int), .slice p n c, .int .i64 (kind : Int), .int .i64 src] 27
  generalize hw1 : (w.alloc (.cells #[.int .i64 (N : Int), .slice p n c, .int .i64 (kind : Int), .int .i64 src] 27)) = w1 at *
  have hs1 : w1.heap.size = w.heap.size + 1 := by rw [← hw1]; simp
  obtain ⟨b2, B2, z2⟩ := boxed0 w1 [.int .i64 0, .int .i64 0, .bool false, .bool false, .slice none 0 0, .slice none 0 0] 32
  generalize hw2 : (w1.alloc (.cells #[.int .i64 0, .int .i64 0, .bool false, .bool false, .slice none 0 0, .slice none 0 0] 32)) = w2 at *
  have hs2 : w2.heap.size = w.heap.size + 2 := by rw [← hw2]; simp; omega
  have HB2 := Lib.hid (b1.trans (b2.mono (by omega)))
  have HX := Lib.hid (B1.next b2)
  have HZ := Lib.hid (show Bx w2 (w.heap.size + 1) _ from by have h1 := B2; rw [hs1] at h1; exact h1)
  obtain ⟨hx0, hx1, hx2, hx3, _⟩ := HX.out.four
  clear b1 b2 B1 B2 z1 z2
  go_enter Try.func15, Try.ntmps15
  go_upto_region 1 with fail
  have HS2 := Lib.hid hs2
  clear hw1 hw2 hs1 hs2
  obtain ⟨g, hg⟩ : ∃ g, g = w.heap.size := ⟨_, rfl⟩
  have HG := Lib.hid hg
  rw [← hg] at HX HZ HS2 hx0 hx1 hx2 hx3 ⊢
  clear hg
  go_wp2_with fail
  refine (HBG.out _ HB2.out).mono ?_; rintro e w3 ⟨v3, rfl, hs3, hb3⟩
  obtain ⟨s0, hs0⟩ : ∃ s0, s0 = beginF N := ⟨_, rfl⟩
  have HS0 := Lib.hid hs0
  rw [← hs0] at hs3 HB0
  clear hs0
  obtain ⟨pv, pm, cv, cm, rfl, hsv, hsm, hvl⟩ := hs3
  have HX3 := Lib.hid (HX.out.next hb3)
  have HZ3 := Lib.hid (HZ.out.next hb3)
  have HB3 := Lib.hid (HB2.out.trans (hb3.mono HB2.out.size))
  have HSV3 := Lib.hid (show RdSt w3 (g + 2) N (.agg #[.int .i64 (s0.step : Int), .int .i64 (s0.phase : Int), .bool s0.fresh, .bool s0.done, .slice pv N cv, .slice pm N cm]) s0 from by rw [← HS2.out]; exact ⟨pv, pm, cv, cm, rfl, hsv, hsm, hvl⟩)
  have hg3 : g + 1 < w3.heap.size := HZ3.out.lt
  obtain ⟨b4, B4, z4⟩ := boxed0 w3 (stC s0 pv pm N cv cm) 32
  unfold stC at *
  go_upto_region 2 with fail
  obtain ⟨w4, hw4⟩ : ∃ w4 : World, w4 = w3.alloc (.cells #[.int .i64 (s0.step : Int), .int .i64 (s0.phase : Int), .bool s0.fresh, .bool s0.done, .slice pv N cv, .slice pm N cm] 32) := ⟨_, rfl⟩
  obtain ⟨g4, hg4⟩ : ∃ g4, g4 = w3.heap.size := ⟨_, rfl⟩
  have hw4' : (w3.alloc (.cells (List.toArray [Value.int .i64 (s0.step : Int), .int .i64 (s0.phase : Int), .bool s0.fresh, .bool s0.done, .slice pv N cv, .slice pm N cm]) 32)) = w4 := hw4.symm
  rw [hw4'] at b4 B4 z4
  have HX4 := Lib.hid (HX3.out.next b4)
  have HZ4 := Lib.hid (HZ3.out.next b4)
  have HB4 := Lib.hid (HB3.out.trans (b4.mono HB3.out.size))
  have HT4 := Lib.hid (show HeldSt w4 g4 (g + 2) N _ s0 from held_old HSV3.out b4 (Nat.le_of_eq hg4.symm))
  rw [← hg4] at B4 hg3
  have HS4 := Lib.hid B4
  rw [← hw4, ← hg4]
  obtain ⟨sF, hsF⟩ : ∃ sF, sF = itF (nextF kind src N E) K s0 := ⟨_, rfl⟩
  have HSF := Lib.hid hsF
  have HEQ := Lib.hid (show itF (nextF kind src N E) K (beginF N) = sF from by rw [hsF, HS0.out])
  have HE0 := Lib.hid (show EndsIn (nextF kind src N E) (fun _ => True) K s0 from by rw [HS0.out]; exact HK.out.ends)
  have h00 : s0.step = 0 := by rw [HS0.out]; rfl
  have HST0 := Lib.hid (show s0.step + K ≤ K from by omega)
  have h4s : g4 < w4.heap.size := HS4.out.lt
  clear hw4 hw4' hg4 b4 B4 z4 hsF h00 HBG hsv hsm hvl HSV3 HX3 HZ3 HB3 hb3 hx0 hx1 hx2 hx3 HX HZ HB2 HS2
  have HRR := Lib.hid (show ∃ (s : RSt) (pv pm : Option Addr) (cv cm : Nat), EndsIn (nextF kind src N E) (fun _ => True) K s ∧ sF = itF (nextF kind src N E) K s ∧ GoodS kind N s ∧ s.step + K ≤ K ∧ Bx w4 g4 [.int .i64 (s.step : Int), .int .i64 (s.phase : Int), .bool s.fresh, .bool s.done, .slice pv N cv, .slice pm N cm] ∧ HeldSt w4 g4 (g + 2) N (.agg #[.int .i64 (s.step : Int), .int .i64 (s.phase : Int), .bool s.fresh, .bool s.done, .slice pv N cv, .slice pm N cm]) s from ⟨s0, pv, pm, cv, cm, HE0.out, HSF.out, HB0.out, HST0.out, HS4.out, HT4.out⟩)
  clear HE0 HSF HB0 HST0 HS4 HT4
  go_loopg [5] K (fun gk v5 wr => v5 = .int .i64 0 ∧ Hid (∃ (s : RSt) (pv pm : Option Addr) (cv cm : Nat), EndsIn (nextF kind src N E) (fun _ => True) gk s ∧ sF = itF (nextF kind src N E) gk s ∧ GoodS kind N s ∧ s.step + gk ≤ K ∧ Bx wr g4 [.int .i64 (s.step : Int), .int .i64 (s.phase : Int), .bool s.fresh, .bool s.done, .slice pv N cv, .slice pm N cm] ∧ HeldSt wr g4 (g + 2) N (.agg #[.int .i64 (s.step : Int), .int .i64 (s.phase : Int), .bool s.fresh, .bool s.done, .slice pv N cv, .slice pm N cm]) s) ∧ Hid (Bx wr g [.int .i64 (N : Int), .slice p n c, .int .i64 (kind : Int), .int .i64 src]) ∧ Hid (Bx wr (g + 1) [.int .i64 0, .int .i64 0, .bool false, .bool false, .slice none 0 0, .slice none 0 0]) ∧ Hid (Below w.heap.size w wr) ∧ g4 < wr.heap.size)
  case atStart => exact ⟨rfl, HRR, HX4, HZ4, HB4, h4s⟩
  case round =>
    clear HRR HX4 HZ4 HB4 h4s
    obtain ⟨rfl, HRR, HX, HZ, HB, h4s⟩ := hrel
    obtain ⟨s, pv, pm, cv, cm, hE, hF, hGS, hst, hbx, hhs⟩ := HRR.out
    have HF := Lib.hid hF
    have HGS := Lib.hid hGS
    have HBX := Lib.hid hbx
    have HHS := Lib.hid hhs
    clear hF hGS hbx hhs HRR
    obtain ⟨hx0, hx1, hx2, hx3, _⟩ := HX.out.four
    obtain ⟨wo, rfl⟩ : ∃ wo : World, wo = wr := ⟨_, rfl⟩
    cases hE with
    | stop hd _ =>
      rw [hd] at HBX HHS
      obtain ⟨ht0, ht1, ht2, ht3, ht4, ht5⟩ := HBX.out.six
      obtain ⟨hz0, hz1, hz2, hz3, hz4, hz5⟩ := HZ.out.six
      obtain ⟨hh0, hh1, hh2, hh3, hh4, hh5⟩ := HZ.out.sixF
      have HDN := Lib.hid hd
      clear hd hst
      go_wp2_with fail
      refine bodyPost_ret (v := .tuple #[.agg #[.int .i64 (s.step : Int), .int .i64 (s.phase : Int), .bool s.fresh, .bool true, .slice pv N cv, .slice pm N cm], .int .i64 0]) ?_ rfl ⟨_, rfl, ?_, ?_⟩
      · rw [results_cell_tmp rfl]
        go_simp
      · rw [HEQ.out]
        exact (RdSt.set6 (show RdSt wo (g + 2) N _ sF from by rw [HF.out]; exact HHS.out.now) (by omega) _ _ _ _ _ _).mono (by have := HG.out; omega)
      · exact setc6 HB.out (by have := HG.out; omega) _ _ _ _ _ _
    | @go j _ hd hE =>
      have HN := Lib.hid (HNX.out _ s wo HB.out (HHS.out.now.mono (Nat.zero_le _)) HGS.out (by have h1 := HK.out.K3; refine ⟨by omega, fun h => ?_⟩; have := h1 h; omega))
      have HE := Lib.hid hE
      have hst2 : (nextF kind src N E s).step + j ≤ K := by rw [next_step, if_neg (by simp [hd])]; omega
      have HST := Lib.hid hst2
      have HGS2 := Lib.hid (HGD.out s HGS.out)
      have HF2 := Lib.hid (show sF = itF (nextF kind src N E) j (nextF kind src N E s) from HF.out)
      rw [hd] at HBX HN
      obtain ⟨ht0, ht1, ht2, ht3, ht4, ht5⟩ := HBX.out.six
      clear hd hE hst hst2 HF HGS
      generalize (nextF kind src N E s) = s2 at *
      go_wp2_with fail
      refine HN.out.mono ?_; rintro e w5 ⟨v5, rfl, hs5, hb5⟩
      obtain ⟨pv2, pm2, cv2, cm2, rfl, hsv, hsm, hvl⟩ := hs5
      have HT5 := Lib.hid (held_new (g := g4) (show RdSt w5 wo.heap.size N _ s2 from ⟨pv2, pm2, cv2, cm2, rfl, hsv, hsm, hvl⟩) h4s)
      have HX5 := Lib.hid (HX.out.next hb5)
      have HZ5 := Lib.hid (HZ.out.next hb5)
      have HB5 := Lib.hid (HB.out.trans (hb5.mono HB.out.size))
      have HBX5 := Lib.hid (HBX.out.next hb5)
      have h5s : g4 < w5.heap.size := Nat.lt_of_lt_of_le h4s hb5.size
      have h42 : g + 2 ≤ wo.heap.size := by omega
      obtain ⟨hf0, hf1, hf2, hf3, hf4, hf5⟩ := HBX5.out.sixF
      obtain ⟨hq0, hq1, hq2, hq3, hq4, hq5⟩ := HBX5.out.six
      clear hb5 hsv hsm hvl HN hx0 hx1 hx2 hx3 ht0 ht1 ht2 ht3 ht4 ht5
      go_wp2_with fail
      go_roundg j
      case measure => omega
      case rel =>
        refine ⟨rfl, Lib.hid ⟨s2, pv2, pm2, cv2, cm2, HE.out, HF2.out, HGS2.out, HST.out, bx6 HBX5.out _ _ _ _ _ _, (HT5.out.next (grown6 _ _ _ _ _ _)).mono h42⟩, Lib.hid (bx6o HX5.out (by omega) _ _ _ _ _ _), Lib.hid (bx6o HZ5.out (by omega) _ _ _ _ _ _), Lib.hid (setc6 HB5.out (by have := HG.out; omega) _ _ _ _ _ _), ?_⟩
        simp [World.setCell]; exact h5s
end Go.Proofs.Ytiaflhlfodcbjaa
