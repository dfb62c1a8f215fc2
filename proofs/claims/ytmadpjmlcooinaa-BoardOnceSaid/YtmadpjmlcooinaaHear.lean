/- The walk of board.Hear. -/
import Derived.Test.YtmadpjmlcooinaaBRead
import Derived.Test.YtmadpjmlcooinaaHeldL
namespace Go.Proofs.Ytmadpjmlcooinaa
open Go.RowKit
theorem rpC_one {w : World} {B : Nat} (r : Rp) {s g : Value} {n m : Nat} {xs ys : List Value} (hs : w.ownsRow B 3 1 s n xs) (hg : w.ownsRow B 3 1 g m ys) : ∀ u ∈ rpC r s g, u.oneCell' = true := by
  obtain ⟨p, c, rfl⟩ := own_slice hs
  obtain ⟨q, d, rfl⟩ := own_slice hg
  intro u hu
  simp [rpC] at hu
  rcases hu with rfl | rfl | rfl | rfl | rfl | rfl | rfl <;> rfl
set_option maxHeartbeats 16000000 in
set_option maxRecDepth 100000 in
theorem hear_ok (W c : Nat) (p : Option Addr) (rs : List Rp) (r : Rp) (s g : Value) (w : World) (h : IsBd w (.slice p rs.length c) rs) (hB : BdOk W rs) (hr : RpNow W r) (hnew : ∀ x ∈ rs, x.wk ≠ r.wk) (hv : RpV w r s g) (hW1 : 1 ≤ W) (hW : W ≤ 8) :
    Calls Try.prog 24 #[.agg #[.int .i64 (W : Int), .int .i64 2, .int .i64 3, .slice p rs.length c], .agg (rpC r s g).toArray] w fun e w' => ∃ p' c' l, e = .returned (.tuple #[.agg #[.int .i64 (W : Int), .int .i64 2, .int .i64 3, .slice p' (rs ++ [r]).length c'], .int .i64 0]) ∧ Hid (l.map (·.1) = rs ++ [r]) ∧ OwnBd w' w.heap.size (.slice p' (rs ++ [r]).length c') (rs ++ [r]).length l ∧ Below w.heap.size w w' := by
  obtain ⟨hrk, hep, hst⟩ := hr
  have hval := h.val
  obtain ⟨p', c', hpe, hcc1, hcc2⟩ := hval
  cases hpe
  have hn8 := hB.len
  have HRD := Lib.hid (fun W' (hb : Below w.heap.size w W') => bread_ok W c p rs W' (h.later hb) hB hW1 hW)
  have hE : rpE r = 0 := by unfold rpE; rw [if_pos ⟨hep, hst⟩]
  have HRP := Lib.hid (fun W' (hb : Below w.heap.size w W') => report_ok W r (.slice p rs.length c) s g W' hrk (hv.later hb) (by omega) (by omega))
  rw [hE] at HRP
  have HL := Lib.hid h
  have HB := Lib.hid hB
  have HCP := Lib.hid (fun W' (hb : Below w.heap.size w W') => copied_ok r s g W' (hv.later hb) (by have := hrk.sl; omega) (by have := hrk.gl; omega))
  have hwkW := hrk.wk
  have HNEW := Lib.hid hnew
  clear h hB hE hv hnew hrk
  have hlen2 : (rs ++ [r]).length = rs.length + 1 := by simp
  rw [hlen2]
  clear hlen2
  obtain ⟨n, hn⟩ : ∃ n, n = rs.length := ⟨_, rfl⟩
  rw [← hn] at hcc1 hn8 HL HRD HRP ⊢
  have HN := Lib.hid hn
  clear hn
  have HEP := Lib.hid hep
  have HST := Lib.hid hst
  clear hep hst
  unfold rpC at HRP ⊢
  obtain ⟨b1, B1, z1⟩ := boxed0 w [.int .i64 (W : Int), .int .i64 2, .int .i64 3, .slice p n c] 56
  obtain ⟨b2, B2, z2⟩ := boxed0 (w.alloc (.cells #[.int .i64 (W : Int), .int .i64 2, .int .i64 3, .slice p n c] 56)) [.int .i64 (r.wk : Int), .int .i64 (r.ep : Int), .int .i64 (r.st : Int), s, g, .int .i64 (r.wa : Int), .int .i64 (r.op : Int)] 61
  have e1 : (w.alloc (.cells #[.int .i64 (W : Int), .int .i64 2, .int .i64 3, .slice p n c] 56)).heap.size = w.heap.size + 1 := by simp
  obtain ⟨b3, B3, z3⟩ := boxed0 ((w.alloc (.cells #[.int .i64 (W : Int), .int .i64 2, .int .i64 3, .slice p n c] 56)).alloc (.cells #[.int .i64 (r.wk : Int), .int .i64 (r.ep : Int), .int .i64 (r.st : Int), s, g, .int .i64 (r.wa : Int), .int .i64 (r.op : Int)] 61)) [.int .i64 0, .int .i64 0, .int .i64 0, .slice none 0 0] 56
  have e2 : ((w.alloc (.cells #[.int .i64 (W : Int), .int .i64 2, .int .i64 3, .slice p n c] 56)).alloc (.cells #[.int .i64 (r.wk : Int), .int .i64 (r.ep : Int), .int .i64 (r.st : Int), s, g, .int .i64 (r.wa : Int), .int .i64 (r.op : Int)] 61)).heap.size = w.heap.size + 1 + 1 := by simp
  have X1 := (B1.next b2).next b3
  have X2 := B2.next b3
  have hbw := (b1.trans (b2.mono (by omega))).trans (b3.mono (by omega))
  rw [e1] at X2
  rw [e2] at B3 z3
  obtain ⟨hx0, hx1, hx2, hx3, _, _, _, _⟩ := X1.four
  clear b1 b2 b3 B1 B2 z1 z2 e1 e2
  go_enter Try.func24, Try.ntmps24
  go_wp2_with fail
  refine (HRD.out _ hbw).mono ?_; rintro e w1 ⟨gy, bb, bo, ps, hpb, rfl, hoy, hby, hb1⟩
  clear hx0 hx1 hx2 hx3
  have Y1 := X1.next hb1
  have Y2 := X2.next hb1
  have Y3 := B3.next hb1
  have hw1 := hbw.trans (hb1.mono hbw.size)
  have hz1 := hb1.size
  have HBY := Lib.hid hby
  have HOY := Lib.hid hoy
  clear X1 X2 B3 hbw hb1 hby hoy hpb
  have hz1' : w.heap.size + 1 + 1 + 1 ≤ w1.heap.size := by omega
  clear z3 hz1
  generalize (((w.alloc (.cells #[.int .i64 (W : Int), .int .i64 2, .int .i64 3, .slice p n c] 56)).alloc (.cells #[.int .i64 (r.wk : Int), .int .i64 (r.ep : Int), .int .i64 (r.st : Int), s, g, .int .i64 (r.wa : Int), .int .i64 (r.op : Int)] 61)).alloc (.cells #[.int .i64 0, .int .i64 0, .int .i64 0, .slice none 0 0] 56)) = W0 at *
  obtain ⟨hx0, hx1, hx2, hx3, _, _, _, _⟩ := Y1.four
  obtain ⟨⟨hy0, hy1, hy2, hy3, hy4, hy5, hy6⟩, _⟩ := Y2.seven
  go_wp2_with fail
  refine (HRP.out _ hw1).mono ?_; rintro e w5 ⟨rfl, hb5⟩
  clear hx0 hx1 hx2 hx3 hy0 hy1 hy2 hy3 hy4 hy5 hy6
  have hw5 := hw1.trans (hb5.mono hw1.size)
  have hz5 := hb5.size
  have Z1 := Lib.hid (Y1.next hb5)
  have Z2 := Lib.hid (Y2.next hb5)
  have Z3 := Lib.hid (Y3.next hb5)
  have hoy5 := own_later HOY.out hb5
  have hcy := hoy5.cellAt r.wk (by omega)
  rw [HBY.out.miss _ hwkW HNEW.out] at hcy
  clear Y1 Y2 Y3 hb5 hoy5 hw1
  obtain ⟨hx0, hx1, hx2, hx3, _, _, _, _⟩ := Z1.out.four
  obtain ⟨⟨hy0, hy1, hy2, hy3, hy4, hy5, hy6⟩, _⟩ := Z2.out.seven
  have hwk0 : (0 : Int) ≤ (r.wk : Int) := by omega
  have hwkW' : (r.wk : Int) < (W : Int) := by omega
  obtain ⟨b9, B9, z9⟩ := boxed0 w5 [.int .i64 (W : Int), .int .i64 2, .int .i64 3, .slice none 0 0] 56
  obtain ⟨hu0, hu1, hu2, hu3, _, _, _, _⟩ := (Z1.out.next b9).four
  go_wp2_with fail
  clear hx0 hx1 hx2 hx3 hy0 hy1 hy2 hy3 hy4 hy5 hy6 hu0 hu1 hu2 hu3 hcy hwk0 hwkW'
  have hw2 := hw5.trans (b9.mono hw5.size)
  have HZ2 := Lib.hid (Z2.out.next b9)
  have HZ3 := Lib.hid (Z3.out.next b9)
  have hzW : (w5.alloc (.cells #[.int .i64 (W : Int), .int .i64 2, .int .i64 3, .slice none 0 0] 56)).heap.size = w5.heap.size + 1 := by simp
  obtain ⟨B, hBe⟩ : ∃ B, B = w5.heap.size := ⟨_, rfl⟩
  rw [← hBe] at B9 hzW ⊢
  have hBw : w.heap.size + 1 + 1 + 1 ≤ B := by omega
  clear hBe b9 z9 hw5 hz5 hz1'
  generalize (w5.alloc (.cells #[.int .i64 (W : Int), .int .i64 2, .int .i64 3, .slice none 0 0] 56)) = W2 at *
  have HZW := Lib.hid hzW
  clear hzW
  have hO0 := OwnBd.nil W2 (B + 1)
  go_loopg [44] n (fun gk v44 wr => ∃ (k : Nat) (p' : Option Addr) (c' : Nat) (l : List (Rp × Value × Value)), v44 = .int .i64 (k : Int) ∧ k + gk = n ∧ Bx wr B [.int .i64 (W : Int), .int .i64 2, .int .i64 3, .slice p' k c'] ∧ OwnBd wr (B + 1) (.slice p' k c') k l ∧ Hid (l.map (·.1) = rs.take k) ∧ Below B W2 wr)
  case atStart => exact ⟨0, none, 0, [], rfl, by omega, B9, hO0, Lib.hid (by simp), Below.refl _ _⟩
  case round =>
    clear B9 hO0
    obtain ⟨k, p', c', l, rfl, hgk, X9, hO, HLT, hb⟩ := hrel
    have HGK := Lib.hid hgk
    have hk : k ≤ n := by omega
    clear hgk
    have hbs := hb.size
    have hWB : W2.heap.size = B + 1 := HZW.out
    have hbw := hw2.trans (hb.mono (by omega))
    have HQB := Lib.hid (fun j e => (hO.outer.lt j e).2)
    have HQL := Lib.hid (fun j e => (hO.outer.lt j e).1)
    have hwrs : B + 1 ≤ wr.heap.size := by omega
    clear hWB hbs
    by_cases hlt : k < n
    · have hkl : k < rs.length := by have := HN.out; omega
      have hnow := (HB.out.now _ (List.getElem_mem hkl)).1
      have hts := Lib.hid (List.take_succ_eq_append_getElem hkl)
      obtain ⟨b', off', so, go, rfl, hcells, hrv⟩ := (HL.out.later hbw).get hkl
      obtain ⟨ps8, cs8, rfl⟩ : ∃ p c, so = .slice p rs[k].sent.length c := by obtain ⟨p, c, hp, _⟩ := hrv.1; exact ⟨p, c, hp⟩
      obtain ⟨pg8, cg8, rfl⟩ : ∃ p c, go = .slice p rs[k].got.length c := by obtain ⟨p, c, hp, _⟩ := hrv.2; exact ⟨p, c, hp⟩
      have hc0 := hcells 0 _ rfl
      have hc1 := hcells 1 _ rfl
      have hc2 := hcells 2 _ rfl
      have hc3 := hcells 3 _ rfl
      have hc4 := hcells 4 _ rfl
      have hc5 := hcells 5 _ rfl
      have hc6 := hcells 6 _ rfl
      have hsl := hnow.sl
      have hgl := hnow.gl
      have HCX := Lib.hid (fun W' (h' : Below wr.heap.size wr W') => copied_ok rs[k] _ _ W' (hrv.later h') (by omega) (by omega))
      clear hcells hrv hnow hsl hgl
      generalize rs[k] = x at *
      have hk0 : (0 : Int) ≤ (k : Int) := by omega
      have hkn : (k : Int) < (n : Int) := by omega
      have hd1 : decide ((k : Int) < (n : Int)) = true := by simp; omega
      have hd2 : decide (k < n) = true := by simp; omega
      have HX9 := Lib.hid X9
      have HO := Lib.hid hO
      clear X9 hO
      replace hc0 : wr.cell? ⟨b', off' + k * 7, none⟩ = some (.int .i64 (x.wk : Int)) := hc0
      go_upto_region 13 with fail
      clear hc0 hc1 hc2 hc3 hc4 hc5 hc6
      have HXP := Lib.hid (show Bx (wr.alloc (.cells #[.int .i64 (x.wk : Int), .int .i64 (x.ep : Int), .int .i64 (x.st : Int), .slice ps8 x.sent.length cs8, .slice pg8 x.got.length cg8, .int .i64 (x.wa : Int), .int .i64 (x.op : Int)] 61)) wr.heap.size [.int .i64 (x.wk : Int), .int .i64 (x.ep : Int), .int .i64 (x.st : Int), .slice ps8 x.sent.length cs8, .slice pg8 x.got.length cg8, .int .i64 (x.wa : Int), .int .i64 (x.op : Int)] from bx_new wr _ _)
      have HXB := Lib.hid (HX9.out.alloc (.cells #[.int .i64 (x.wk : Int), .int .i64 (x.ep : Int), .int .i64 (x.st : Int), .slice ps8 x.sent.length cs8, .slice pg8 x.got.length cg8, .int .i64 (x.wa : Int), .int .i64 (x.op : Int)] 61))
      have HOB := Lib.hid (HO.out.later (alloc_below wr (.cells #[.int .i64 (x.wk : Int), .int .i64 (x.ep : Int), .int .i64 (x.st : Int), .slice ps8 x.sent.length cs8, .slice pg8 x.got.length cg8, .int .i64 (x.wa : Int), .int .i64 (x.op : Int)] 61)))
      have HCA := Lib.hid (fun W' (h' : Below (wr.alloc (.cells #[.int .i64 (x.wk : Int), .int .i64 (x.ep : Int), .int .i64 (x.st : Int), .slice ps8 x.sent.length cs8, .slice pg8 x.got.length cg8, .int .i64 (x.wa : Int), .int .i64 (x.op : Int)] 61)).heap.size (wr.alloc (.cells #[.int .i64 (x.wk : Int), .int .i64 (x.ep : Int), .int .i64 (x.st : Int), .slice ps8 x.sent.length cs8, .slice pg8 x.got.length cg8, .int .i64 (x.wa : Int), .int .i64 (x.op : Int)] 61)) W') => HCX.out W' ((alloc_below wr (.cells #[.int .i64 (x.wk : Int), .int .i64 (x.ep : Int), .int .i64 (x.st : Int), .slice ps8 x.sent.length cs8, .slice pg8 x.got.length cg8, .int .i64 (x.wa : Int), .int .i64 (x.op : Int)] 61)).trans (h'.mono (by simp))))
      have hba := hb.alloc (by omega) (.cells #[.int .i64 (x.wk : Int), .int .i64 (x.ep : Int), .int .i64 (x.st : Int), .slice ps8 x.sent.length cs8, .slice pg8 x.got.length cg8, .int .i64 (x.wa : Int), .int .i64 (x.op : Int)] 61)
      have hza : (wr.alloc (.cells #[.int .i64 (x.wk : Int), .int .i64 (x.ep : Int), .int .i64 (x.st : Int), .slice ps8 x.sent.length cs8, .slice pg8 x.got.length cg8, .int .i64 (x.wa : Int), .int .i64 (x.op : Int)] 61)).heap.size = wr.heap.size + 1 := by simp
      have HZA := Lib.hid hza
      have hza2 : wr.heap.size ≤ (wr.alloc (.cells #[.int .i64 (x.wk : Int), .int .i64 (x.ep : Int), .int .i64 (x.st : Int), .slice ps8 x.sent.length cs8, .slice pg8 x.got.length cg8, .int .i64 (x.wa : Int), .int .i64 (x.op : Int)] 61)).heap.size := by omega
      have HFP := Lib.hid (show (Value.slice p' k c').ownBlock ≠ some wr.heap.size from fun e => by have := HQB.out _ e; omega)
      clear hza HCX
      generalize hwa : (wr.alloc (.cells #[.int .i64 (x.wk : Int), .int .i64 (x.ep : Int), .int .i64 (x.st : Int), .slice ps8 x.sent.length cs8, .slice pg8 x.got.length cg8, .int .i64 (x.wa : Int), .int .i64 (x.op : Int)] 61)) = wa at *
      clear hwa
      have hq3 := HXB.out.four.2.2.2.1
      obtain ⟨⟨ht0, ht1, ht2, ht3, ht4, ht5, ht6⟩, _⟩ := HXP.out.seven
      obtain ⟨S, hSI⟩ : ∃ S : World → Prop, ∀ w', S w' ↔ (w'.cell? ⟨B, 3, none⟩ = some (Value.slice p' k c') ∧ w'.cell? ⟨wr.heap.size, 0, none⟩ = some (.int .i64 (x.wk : Int)) ∧ w'.cell? ⟨wr.heap.size, 1, none⟩ = some (.int .i64 (x.ep : Int)) ∧ w'.cell? ⟨wr.heap.size, 2, none⟩ = some (.int .i64 (x.st : Int)) ∧ w'.cell? ⟨wr.heap.size, 3, none⟩ = some (Value.slice ps8 x.sent.length cs8) ∧ w'.cell? ⟨wr.heap.size, 4, none⟩ = some (Value.slice pg8 x.got.length cg8) ∧ w'.cell? ⟨wr.heap.size, 5, none⟩ = some (.int .i64 (x.wa : Int)) ∧ w'.cell? ⟨wr.heap.size, 6, none⟩ = some (.int .i64 (x.op : Int))) := ⟨fun w' => _, fun w' => Iff.rfl⟩
      have HSI := Lib.hid hSI
      clear hSI
      refine wp_region_L S 7 (by kernel_rfl) ((HSI.out _).2 ⟨hq3, ht0, ht1, ht2, ht3, ht4, ht5, ht6⟩) (fun hS => ?_)
      clear hq3 ht0 ht1 ht2 ht3 ht4 ht5 ht6
      refine wpAnyL_take 0 (v := ?_) rfl rfl (by kernel_rfl) (by kernel_rfl) (by kernel_rfl) (by kernel_rfl) (fun _ _ _ h => h) (Or.inl ⟨by rfl, ?_⟩) hS ?_; rotate_left; · intro w hSw; go_simp <;> with_reducible rfl
      try simp only [Act.put, List.setIfInBounds_toArray, List.set_cons_zero, List.set_cons_succ]
      refine wpAnyL_take 1 (v := ?_) rfl rfl (by kernel_rfl) (by kernel_rfl) (by kernel_rfl) (by kernel_rfl) (fun _ _ _ h => h) (Or.inl ⟨by rfl, ?_⟩) hS ?_; rotate_left; · intro w hSw; obtain ⟨hz0, hz1, hz2, hz3, hz4, hz5, hz6, hz7⟩ := (HSI.out w).1 hSw; go_simp <;> with_reducible rfl
      try simp only [Act.put, List.setIfInBounds_toArray, List.set_cons_zero, List.set_cons_succ]
      refine wpAnyL_take 2 (v := ?_) rfl rfl (by kernel_rfl) (by kernel_rfl) (by kernel_rfl) (by kernel_rfl) (fun _ _ _ h => h) (Or.inl ⟨by rfl, ?_⟩) hS ?_; rotate_left; · intro w hSw; obtain ⟨hz0, hz1, hz2, hz3, hz4, hz5, hz6, hz7⟩ := (HSI.out w).1 hSw; go_simp <;> with_reducible rfl
      try simp only [Act.put, List.setIfInBounds_toArray, List.set_cons_zero, List.set_cons_succ]
      refine wpAnyL_one 3 rfl rfl (by kernel_rfl) ?_; intro K hK; rw [if_pos (by rfl)]
      go_simp
      refine (HCA.out _ (below_drew (Below.refl _ _))).mono ?_; rintro e w6 ⟨s6, g6, rfl, hs6, hg6, hb6⟩
      obtain ⟨p6, c6, rfl⟩ := own_slice hs6
      obtain ⟨q6, d6, rfl⟩ := own_slice hg6
      unfold rpC
      have hc6 : Below wa.heap.size wa w6 := (Below.refl _ wa).drew.trans hb6
      have hz6 := hc6.size
      have hB6 := HXB.out.next hc6
      have hP6 := HXP.out.next hc6
      have hO6 := HOB.out.later hc6
      obtain ⟨_, _, _, hq3, _, _, _, _⟩ := hB6.four
      obtain ⟨⟨ht0, ht1, ht2, ht3, ht4, ht5, ht6⟩, _⟩ := hP6.seven
      refine hK.out _ _ (fun _ => (HSI.out _).2 ⟨hq3, ht0, ht1, ht2, ht3, ht4, ht5, ht6⟩) ?_; clear hK K
      have hS := (HSI.out _).2 ⟨hq3, ht0, ht1, ht2, ht3, ht4, ht5, ht6⟩
      have HB6 := Lib.hid hB6
      have HP6 := Lib.hid hP6
      clear hq3 ht0 ht1 ht2 ht3 ht4 ht5 ht6 hB6 hP6
      try simp only [Act.put, List.setIfInBounds_toArray, List.set_cons_zero, List.set_cons_succ]
      refine wpAnyL_one 4 rfl rfl (by kernel_rfl) ?_; intro K hK; rw [if_pos (by rfl)]
      go_simp
      have hB7 := HB6.out.alloc (.cells (rpC x (Value.slice p6 x.sent.length c6) (Value.slice q6 x.got.length d6)).toArray 61)
      have hP7 := HP6.out.alloc (.cells (rpC x (Value.slice p6 x.sent.length c6) (Value.slice q6 x.got.length d6)).toArray 61)
      obtain ⟨_, _, _, hq3, _, _, _, _⟩ := hB7.four
      obtain ⟨⟨ht0, ht1, ht2, ht3, ht4, ht5, ht6⟩, _⟩ := hP7.seven
      refine hK.out _ _ (fun _ => (HSI.out _).2 ⟨hq3, ht0, ht1, ht2, ht3, ht4, ht5, ht6⟩) ?_; clear hK K
      have hS := (HSI.out _).2 ⟨hq3, ht0, ht1, ht2, ht3, ht4, ht5, ht6⟩
      clear hq3 ht0 ht1 ht2 ht3 ht4 ht5 ht6
      try simp only [Act.put, List.setIfInBounds_toArray, List.set_cons_zero, List.set_cons_succ]
      refine wpAnyL_one 5 rfl rfl (by kernel_rfl) ?_; intro K hK; rw [if_pos (by rfl)]
      refine wp_app_op (.tmp 49) (.tmp 52) _ rfl (B + 1) 61 rfl inf_rep rfl (by decide) rfl (hO6.outer.alloc _) rfl (news := rpC x (Value.slice p6 x.sent.length c6) (Value.slice q6 x.got.length d6)) (sl_new w6 (rpC x (Value.slice p6 x.sent.length c6) (Value.slice q6 x.got.length d6)) 61) (rpC_one x hs6 hg6) (by unfold maxLen; omega) (by omega) (Below.refl _ _) (by simp; omega) ?_
      intro p7 c7 w7 hown7 hb7 hs7 hg7 hnb7
      clear hS
      have hfs6 : ∀ j, (Value.slice p6 x.sent.length c6).ownBlock = some j → (Value.slice p' k c').ownBlock ≠ some j := fun j hj e => by have h1 := (hs6.lt j hj).1; have h2 := HQB.out j e; have h3 : wa.drew.heap.size = wa.heap.size := rfl; omega
      have hfg6 : ∀ j, (Value.slice q6 x.got.length d6).ownBlock = some j → (Value.slice p' k c').ownBlock ≠ some j := fun j hj e => by have h1 := (hg6.lt j hj).1; have h2 := HQB.out j e; have h3 : wa.drew.heap.size = wa.heap.size := rfl; omega
      have hgw7 : w6.grownBy w7 (Value.slice p' k c').ownBlock := ⟨hg7.os, hg7.tape, hg7.output, Nat.le_trans (World.grownBy_alloc w6 _ none).size hg7.size, fun j hj hr => (hg7.block j (Nat.lt_of_lt_of_le hj (World.grownBy_alloc w6 _ none).size) hr).trans ((World.grownBy_alloc w6 _ none).block j hj (by simp))⟩
      have HP := hO6.push (r := x) hgw7 (own_mono hs6 (by have h3 : wa.drew.heap.size = wa.heap.size := rfl; omega)) (own_mono hg6 (by have h3 : wa.drew.heap.size = wa.heap.size := rfl; omega)) hfs6 hfg6 hown7 (by rcases hnb7 with h | h; exact .inl h; exact .inr ⟨_, by simp, h⟩)
      have hB8 := hB7.grown hg7 (fun e => by have := (hO6.outer.lt _ e).1; omega)
      have hP8 := hP7.grown hg7 (fun e => HFP.out e)
      obtain ⟨_, _, _, hq3, _, _, _, hqf⟩ := hB8.four
      obtain ⟨⟨ht0, ht1, ht2, ht3, ht4, ht5, ht6⟩, _⟩ := hP8.seven
      refine hK.out _ _ (fun _ => (HSI.out _).2 ⟨hq3, ht0, ht1, ht2, ht3, ht4, ht5, ht6⟩) ?_; clear hK K
      have hS := (HSI.out _).2 ⟨hq3, ht0, ht1, ht2, ht3, ht4, ht5, ht6⟩
      try simp only [Act.put, List.setIfInBounds_toArray, List.set_cons_zero, List.set_cons_succ]
      refine wpAnyL_take 6 (v := ?_) rfl rfl (by kernel_rfl) (by kernel_rfl) (by kernel_rfl) (by kernel_rfl) (fun _ _ _ h => h) (Or.inl ⟨by rfl, ?_⟩) hS ?_; rotate_left; · intro w hSw; go_simp <;> with_reducible rfl
      try simp only [Act.put, List.setIfInBounds_toArray, List.set_cons_zero, List.set_cons_succ]
      refine wpAnyL_one 7 rfl rfl (by kernel_rfl) ?_; intro K hK; rw [if_pos (by rfl)]
      go_simp
      refine hK.out _ _ (fun h => absurd rfl h) ?_; clear hK K
      refine wpAnyL_done (by kernel_rfl) ?_ _
      have hX10 : Bx (w7.setCell ⟨B, 3, none⟩ (.slice p7 (k + 1) c7)) B [.int .i64 (W : Int), .int .i64 2, .int .i64 3, .slice p7 (k + 1) c7] := hB8.setc 3 _
      have hO10 := HP.setCell (a := ⟨B, 3, none⟩) (by simp) (.slice p7 (k + 1) c7)
      have hlt2 : (l ++ [(x, (Value.slice p6 x.sent.length c6), (Value.slice q6 x.got.length d6))]).map (·.1) = rs.take (k + 1) := by rw [List.map_append, HLT.out, hts.out]; rfl
      have HLT2 := Lib.hid hlt2
      have hbZ : Below B W2 w7 := (hba.trans (hc6.mono (by omega))).trans (((alloc_below w6 _).mono (by omega)).trans (hb7.mono (by omega)))
      clear hlt2 hS hq3 hqf ht0 ht1 ht2 ht3 ht4 ht5 ht6 hB7 hP7 hB8 hP8 hO6
      go_wp2_with fail
      go_roundg (n - (k + 1))
      case measure => have := HGK.out; omega
      case rel => exact ⟨k + 1, p7, c7, _, by go_num, by omega, hX10, hO10, HLT2, hbZ.setCell (by simp) _⟩
    · obtain rfl : k = n := by omega
      have hd1 : decide ((k : Int) < (k : Int)) = false := by simp
      have HXB := Lib.hid X9
      have HOB := Lib.hid hO
      have HXP := Lib.hid (HZ2.out.later hb (by omega))
      have HX3 := Lib.hid (HZ3.out.later hb (by omega))
      have HCA := Lib.hid (fun W' (h' : Below wr.heap.size wr W') => HCP.out W' (hbw.trans (h'.mono hbw.size)))
      have HFP := Lib.hid (show (Value.slice p' k c').ownBlock ≠ some (w.heap.size + 1) from fun e => by have := HQL.out _ e; omega)
      have hza2 : wr.heap.size ≤ wr.heap.size := Nat.le_refl _
      clear X9 hO
      go_upto_region 15 with fail
      obtain ⟨wa, rfl⟩ : ∃ wa : World, wa = wr := ⟨_, rfl⟩
      have hq3 := HXB.out.four.2.2.2.1
      obtain ⟨⟨ht0, ht1, ht2, ht3, ht4, ht5, ht6⟩, _⟩ := HXP.out.seven
      obtain ⟨S, hSI⟩ : ∃ S : World → Prop, ∀ w', S w' ↔ (w'.cell? ⟨B, 3, none⟩ = some (Value.slice p' k c') ∧ w'.cell? ⟨w.heap.size + 1, 0, none⟩ = some (.int .i64 (r.wk : Int)) ∧ w'.cell? ⟨w.heap.size + 1, 1, none⟩ = some (.int .i64 (r.ep : Int)) ∧ w'.cell? ⟨w.heap.size + 1, 2, none⟩ = some (.int .i64 (r.st : Int)) ∧ w'.cell? ⟨w.heap.size + 1, 3, none⟩ = some s ∧ w'.cell? ⟨w.heap.size + 1, 4, none⟩ = some g ∧ w'.cell? ⟨w.heap.size + 1, 5, none⟩ = some (.int .i64 (r.wa : Int)) ∧ w'.cell? ⟨w.heap.size + 1, 6, none⟩ = some (.int .i64 (r.op : Int))) := ⟨fun w' => _, fun w' => Iff.rfl⟩
      have HSI := Lib.hid hSI
      clear hSI
      refine wp_region_L S 7 (by kernel_rfl) ((HSI.out _).2 ⟨hq3, ht0, ht1, ht2, ht3, ht4, ht5, ht6⟩) (fun hS => ?_)
      clear hq3 ht0 ht1 ht2 ht3 ht4 ht5 ht6
      refine wpAnyL_take 0 (v := ?_) rfl rfl (by kernel_rfl) (by kernel_rfl) (by kernel_rfl) (by kernel_rfl) (fun _ _ _ h => h) (Or.inl ⟨by rfl, ?_⟩) hS ?_; rotate_left; · intro w hSw; go_simp <;> with_reducible rfl
      try simp only [Act.put, List.setIfInBounds_toArray, List.set_cons_zero, List.set_cons_succ]
      refine wpAnyL_take 1 (v := ?_) rfl rfl (by kernel_rfl) (by kernel_rfl) (by kernel_rfl) (by kernel_rfl) (fun _ _ _ h => h) (Or.inl ⟨by rfl, ?_⟩) hS ?_; rotate_left; · intro w hSw; obtain ⟨hz0, hz1, hz2, hz3, hz4, hz5, hz6, hz7⟩ := (HSI.out w).1 hSw; go_simp <;> with_reducible rfl
      try simp only [Act.put, List.setIfInBounds_toArray, List.set_cons_zero, List.set_cons_succ]
      refine wpAnyL_take 2 (v := ?_) rfl rfl (by kernel_rfl) (by kernel_rfl) (by kernel_rfl) (by kernel_rfl) (fun _ _ _ h => h) (Or.inl ⟨by rfl, ?_⟩) hS ?_; rotate_left; · intro w hSw; obtain ⟨hz0, hz1, hz2, hz3, hz4, hz5, hz6, hz7⟩ := (HSI.out w).1 hSw; go_simp <;> with_reducible rfl
      try simp only [Act.put, List.setIfInBounds_toArray, List.set_cons_zero, List.set_cons_succ]
      refine wpAnyL_one 3 rfl rfl (by kernel_rfl) ?_; intro K hK; rw [if_pos (by rfl)]
      go_simp
      refine (HCA.out _ (below_drew (Below.refl _ _))).mono ?_; rintro e w6 ⟨s6, g6, rfl, hs6, hg6, hb6⟩
      obtain ⟨p6, c6, rfl⟩ := own_slice hs6
      obtain ⟨q6, d6, rfl⟩ := own_slice hg6
      unfold rpC
      have hc6 : Below wa.heap.size wa w6 := (Below.refl _ wa).drew.trans hb6
      have hz6 := hc6.size
      have hB6 := HXB.out.next hc6
      have hP6 := HXP.out.next hc6
      have hO6 := HOB.out.later hc6
      obtain ⟨_, _, _, hq3, _, _, _, _⟩ := hB6.four
      obtain ⟨⟨ht0, ht1, ht2, ht3, ht4, ht5, ht6⟩, _⟩ := hP6.seven
      refine hK.out _ _ (fun _ => (HSI.out _).2 ⟨hq3, ht0, ht1, ht2, ht3, ht4, ht5, ht6⟩) ?_; clear hK K
      have hS := (HSI.out _).2 ⟨hq3, ht0, ht1, ht2, ht3, ht4, ht5, ht6⟩
      have HB6 := Lib.hid hB6
      have HP6 := Lib.hid hP6
      clear hq3 ht0 ht1 ht2 ht3 ht4 ht5 ht6 hB6 hP6
      try simp only [Act.put, List.setIfInBounds_toArray, List.set_cons_zero, List.set_cons_succ]
      refine wpAnyL_one 4 rfl rfl (by kernel_rfl) ?_; intro K hK; rw [if_pos (by rfl)]
      go_simp
      have hB7 := HB6.out.alloc (.cells (rpC r (Value.slice p6 r.sent.length c6) (Value.slice q6 r.got.length d6)).toArray 61)
      have hP7 := HP6.out.alloc (.cells (rpC r (Value.slice p6 r.sent.length c6) (Value.slice q6 r.got.length d6)).toArray 61)
      obtain ⟨_, _, _, hq3, _, _, _, _⟩ := hB7.four
      obtain ⟨⟨ht0, ht1, ht2, ht3, ht4, ht5, ht6⟩, _⟩ := hP7.seven
      refine hK.out _ _ (fun _ => (HSI.out _).2 ⟨hq3, ht0, ht1, ht2, ht3, ht4, ht5, ht6⟩) ?_; clear hK K
      have hS := (HSI.out _).2 ⟨hq3, ht0, ht1, ht2, ht3, ht4, ht5, ht6⟩
      clear hq3 ht0 ht1 ht2 ht3 ht4 ht5 ht6
      try simp only [Act.put, List.setIfInBounds_toArray, List.set_cons_zero, List.set_cons_succ]
      refine wpAnyL_one 5 rfl rfl (by kernel_rfl) ?_; intro K hK; rw [if_pos (by rfl)]
      refine wp_app_op (.tmp 57) (.tmp 60) _ rfl (B + 1) 61 rfl inf_rep rfl (by decide) rfl (hO6.outer.alloc _) rfl (news := rpC r (Value.slice p6 r.sent.length c6) (Value.slice q6 r.got.length d6)) (sl_new w6 (rpC r (Value.slice p6 r.sent.length c6) (Value.slice q6 r.got.length d6)) 61) (rpC_one r hs6 hg6) (by unfold maxLen; omega) (by omega) (Below.refl _ _) (by simp; omega) ?_
      intro p7 c7 w7 hown7 hb7 hs7 hg7 hnb7
      clear hS
      have hfs6 : ∀ j, (Value.slice p6 r.sent.length c6).ownBlock = some j → (Value.slice p' k c').ownBlock ≠ some j := fun j hj e => by have h1 := (hs6.lt j hj).1; have h2 := HQB.out j e; have h3 : wa.drew.heap.size = wa.heap.size := rfl; omega
      have hfg6 : ∀ j, (Value.slice q6 r.got.length d6).ownBlock = some j → (Value.slice p' k c').ownBlock ≠ some j := fun j hj e => by have h1 := (hg6.lt j hj).1; have h2 := HQB.out j e; have h3 : wa.drew.heap.size = wa.heap.size := rfl; omega
      have hgw7 : w6.grownBy w7 (Value.slice p' k c').ownBlock := ⟨hg7.os, hg7.tape, hg7.output, Nat.le_trans (World.grownBy_alloc w6 _ none).size hg7.size, fun j hj hr => (hg7.block j (Nat.lt_of_lt_of_le hj (World.grownBy_alloc w6 _ none).size) hr).trans ((World.grownBy_alloc w6 _ none).block j hj (by simp))⟩
      have HP := hO6.push (r := r) hgw7 (own_mono hs6 (by have h3 : wa.drew.heap.size = wa.heap.size := rfl; omega)) (own_mono hg6 (by have h3 : wa.drew.heap.size = wa.heap.size := rfl; omega)) hfs6 hfg6 hown7 (by rcases hnb7 with h | h; exact .inl h; exact .inr ⟨_, by simp, h⟩)
      have hB8 := hB7.grown hg7 (fun e => by have := (hO6.outer.lt _ e).1; omega)
      have hP8 := hP7.grown hg7 (fun e => HFP.out e)
      obtain ⟨_, _, _, hq3, _, _, _, hqf⟩ := hB8.four
      obtain ⟨⟨ht0, ht1, ht2, ht3, ht4, ht5, ht6⟩, _⟩ := hP8.seven
      refine hK.out _ _ (fun _ => (HSI.out _).2 ⟨hq3, ht0, ht1, ht2, ht3, ht4, ht5, ht6⟩) ?_; clear hK K
      have hS := (HSI.out _).2 ⟨hq3, ht0, ht1, ht2, ht3, ht4, ht5, ht6⟩
      try simp only [Act.put, List.setIfInBounds_toArray, List.set_cons_zero, List.set_cons_succ]
      refine wpAnyL_take 6 (v := ?_) rfl rfl (by kernel_rfl) (by kernel_rfl) (by kernel_rfl) (by kernel_rfl) (fun _ _ _ h => h) (Or.inl ⟨by rfl, ?_⟩) hS ?_; rotate_left; · intro w hSw; go_simp <;> with_reducible rfl
      try simp only [Act.put, List.setIfInBounds_toArray, List.set_cons_zero, List.set_cons_succ]
      refine wpAnyL_one 7 rfl rfl (by kernel_rfl) ?_; intro K hK; rw [if_pos (by rfl)]
      go_simp
      refine hK.out _ _ (fun h => absurd rfl h) ?_; clear hK K
      refine wpAnyL_done (by kernel_rfl) ?_ _
      have hX10 : Bx (w7.setCell ⟨B, 3, none⟩ (.slice p7 (k + 1) c7)) B [.int .i64 (W : Int), .int .i64 2, .int .i64 3, .slice p7 (k + 1) c7] := hB8.setc 3 _
      have hX3 := bx_oth (((HX3.out.next hc6).alloc (.cells (rpC r (Value.slice p6 r.sent.length c6) (Value.slice q6 r.got.length d6)).toArray 61)).grown hg7 (fun e => by have := HQL.out _ e; omega)) (a := ⟨B, 3, none⟩) (by show w.heap.size + 1 + 1 ≠ B; omega) (.slice p7 (k + 1) c7)
      have hO10 := HP.setCell (a := ⟨B, 3, none⟩) (by simp) (.slice p7 (k + 1) c7)
      have hlt2 : rs ++ [r] = (l ++ [(r, (Value.slice p6 r.sent.length c6), (Value.slice q6 r.got.length d6))]).map (·.1) := by rw [List.map_append, HLT.out, List.take_of_length_le (by have := HN.out; omega)]; rfl
      have HLT2 := Lib.hid hlt2
      have hbZ : Below w.heap.size w w7 := (hbw.trans (hc6.mono hbw.size)).trans (((alloc_below w6 _).mono (by omega)).trans (hb7.mono (by omega)))
      clear hlt2 hS hq3 hqf ht0 ht1 ht2 ht3 ht4 ht5 ht6 hB7 hP7 hB8 hP8 hO6
      obtain ⟨hr0, hr1, hr2, hr3, _, _, _, _⟩ := hX10.four
      obtain ⟨_, _, _, _, hf0, hf1, hf2, hf3⟩ := hX3.four
      go_wp2_with fail
      refine bodyPost_ret (v := .tuple #[.agg #[.int .i64 (W : Int), .int .i64 2, .int .i64 3, .slice p7 (k + 1) c7], .int .i64 0]) ?_ rfl ⟨p7, c7, _, rfl, Lib.hid HLT2.out.symm, ?_, ?_⟩
      · rw [results_cell_tmp rfl]
        go_simp
      · refine OwnBd.mono (B := B + 1) ?_ (by omega)
        iterate 4 (refine OwnBd.setCell ?_ (by simp <;> omega) _)
        exact hO10
      · iterate 5 (refine Below.setCell ?_ (by simp <;> omega) _)
        exact hbZ
end Go.Proofs.Ytmadpjmlcooinaa
