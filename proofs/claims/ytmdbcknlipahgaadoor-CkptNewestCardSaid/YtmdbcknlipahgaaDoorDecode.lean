/- The walk of ckpt.Decode: it answers what decodeL says, for every slice of bytes. -/
import Derived.Test.YtmdbcknlipahgaaDoorTaken
import Derived.Test.YtmdbcknlipahgaaDoorCMay
import Derived.Test.YtmdbcknlipahgaaDoorUnwrap
import Derived.Test.YtmdbcknlipahgaaDoorHeldL
import Derived.OwnWalk
namespace Go.Proofs.YtmdbcknlipahgaaDoor
open Go.RowKit Go.Sort Go.Proofs
theorem inf_valD : (Tryd.prog.info? 96).map (fun i => (i.zero, i.size, i.bytes)) = some (some (.agg #[.int .i64 0, .int .i64 0]), 2, 16) := by kernel_rfl
theorem inf_mailD : (Tryd.prog.info? 103).map (fun i => (i.zero, i.size, i.bytes)) = some (some (.agg #[.int .i64 0, .int .i64 0]), 2, 16) := by kernel_rfl
/-- nothing saved, as a value -/
def zsv : Value := .agg #[.int .i64 0, .int .i64 0, .bool false, .slice none 0 0, .slice none 0 0]
theorem unwrapL_err (l : List Nat) : (unwrapL l).2.2 ≤ 6 := by
  have h := getF_err l 0 0
  unfold unwrapL
  split
  · exact h
  split
  · exact Nat.le_of_ble_eq_true rfl
  split
  · exact Nat.le_of_ble_eq_true rfl
  split
  · exact Nat.le_of_ble_eq_true rfl
  · exact Nat.zero_le _
theorem unwrapL_bytesD {l ink : List Nat} {k er : Nat} (h : AllB l) (hu : unwrapL l = (ink, k, er)) : AllB ink := by
  have e : ink = (unwrapL l).1 := by rw [hu]
  rw [e]
  unfold unwrapL
  split
  · exact fun x hx => by cases hx
  split
  · exact fun x hx => by cases hx
  split
  · exact fun x hx => by cases hx
  split
  · exact fun x hx => by cases hx
  · exact fun x hx => h x (List.mem_of_mem_take (List.mem_of_mem_drop hx))
theorem decodeL_none {l ink : List Nat} {k er : Nat} (h : unwrapL l = (ink, k, er)) (hc : ¬ (er = 0 ∧ k = l.length ∧ (decL ink).2 = some [] ∧ srt cfM (decL ink).1.mail = (decL ink).1.mail)) : decodeL l = none := by
  unfold decodeL; rw [h]; exact if_neg hc
theorem decodeL_some {l ink : List Nat} {k : Nat} (h : unwrapL l = (ink, k, 0)) (h1 : k = l.length) (h2 : (decL ink).2 = some []) (h3 : srt cfM (decL ink).1.mail = (decL ink).1.mail) : decodeL l = some (decL ink).1 := by
  unfold decodeL; rw [h]; exact if_pos ⟨rfl, h1, h2, h3⟩
theorem setc5 {w : World} {g : Nat} {B : Nat} {u0 : World} (hb : Below B u0 w) (hB : B ≤ g) (a b c d e : Value) : Below B u0 (((((w.setCell ⟨g, 0, none⟩ a).setCell ⟨g, 1, none⟩ b).setCell ⟨g, 2, none⟩ c).setCell ⟨g, 3, none⟩ d).setCell ⟨g, 4, none⟩ e) :=
  ((((hb.setCell hB _).setCell hB _).setCell hB _).setCell hB _).setCell hB _
theorem own_set5 {w : World} {g : Nat} {B : Nat} {t : TypeId} {size n : Nat} {v : Value} {xs : List Value} (h : w.ownsRow B t size v n xs) (hB : g < B) (a b c d e : Value) : (((((w.setCell ⟨g, 0, none⟩ a).setCell ⟨g, 1, none⟩ b).setCell ⟨g, 2, none⟩ c).setCell ⟨g, 3, none⟩ d).setCell ⟨g, 4, none⟩ e).ownsRow B t size v n xs :=
  own_ne_st (own_ne_st (own_ne_st (own_ne_st (own_ne_st h hB _ _) hB _ _) hB _ _) hB _ _) hB _ _
/-- what is saved, in rows of a call's own -/
def OwnSv (w : World) (B : Nat) (v : Value) (s : Sv) : Prop :=
  ∃ (p p' : Option Addr) (n c m c' : Nat), v = .agg #[.int .i64 (s.step : Int), .int .i64 (s.phase : Int), .bool s.fresh, .slice p n c, .slice p' m c'] ∧ w.ownsRow B 96 2 (.slice p n c) n (vcs s.vals) ∧ w.ownsRow B 103 2 (.slice p' m c') m (mcs s.mail)
theorem OwnSv.isSv {w : World} {B : Nat} {v : Value} {s : Sv} (h : OwnSv w B v s) : IsSv w v s := by
  obtain ⟨p, p', n, c, m, c', rfl, h1, h2⟩ := h
  exact ⟨p, p', n, c, m, c', rfl, Sl.of_own h1, Sl.of_own h2⟩
set_option maxHeartbeats 16000000 in
set_option maxRecDepth 100000 in
theorem decode_own (p : Option Addr) (c n : Nat) (l : List Nat) (w : World) (hl : IsB w (.slice p n c) l) :
    Calls Tryd.prog 20 #[.slice p n c] w fun e w' => ∃ (v : Value) (er : Nat), e = .returned (.tuple #[v, .int .i64 (er : Int)]) ∧ Below w.heap.size w w' ∧ er ≤ 6 ∧ (∀ s, decodeL l = some s → er = 0 ∧ OwnSv w' w.heap.size v s) ∧ (decodeL l = none → er ≠ 0 ∧ v = zsv) := by
  obtain ⟨hn, hc1, hc2⟩ := hl.lens
  have HL := Lib.hid hl
  have HN := Lib.hid hn
  obtain ⟨b1, B1, z1⟩ := boxed0 w [.int .i64 0, .int .i64 0, .bool false, .slice none 0 0, .slice none 0 0] 51
  have HX1 := Lib.hid B1
  have HB1 := Lib.hid b1
  clear hl hn B1 b1 z1
  go_enter Tryd.func20, Tryd.ntmps20
  go_wp2_with fail
  obtain ⟨gr, hgr⟩ : ∃ gr, gr = w.heap.size := ⟨_, rfl⟩
  have HGR := Lib.hid hgr
  rw [← hgr] at HX1 ⊢
  generalize (w.alloc (.cells #[.int .i64 0, .int .i64 0, .bool false, .slice none 0 0, .slice none 0 0] 51)) = w1 at *
  refine (unwrap_any _ _ _ l _ (HL.out.later HB1.out)).mono ?_; rintro e w2 ⟨p2, c2, rfl, ho2, hb2⟩
  have hue := unwrapL_err l
  generalize hU : unwrapL l = U at *
  obtain ⟨ink, kf, er⟩ := U
  dsimp only at *
  have HU := Lib.hid hU
  have HX2 := Lib.hid (HX1.out.next hb2)
  have HW2 := Lib.hid (HB1.out.trans (hb2.mono HB1.out.size))
  have HIB := Lib.hid (show AllB ink from unwrapL_bytesD HL.out.2 HU.out)
  have HI := Lib.hid (IsB.of_own ho2 HIB.out)
  have hgl := HX2.out.lt
  clear hU hgr hb2 ho2
  obtain ⟨hx0, hx1, hx2, hx3, hx4⟩ := HX2.out.five
  obtain ⟨hf0, hf1, hf2, hf3, hf4⟩ := HX2.out.fiveF
  by_cases he : er = 0
  · subst he
    clear hx0 hx1 hx2 hx3 hx4 hf0 hf1 hf2 hf3 hf4
    obtain ⟨b3, B3, z3⟩ := boxed0 w2 [.slice p2 ink.length c2, .bool false] 109
    have HT3 := Lib.hid (show TkSt w2 (w2.alloc (.cells #[.slice p2 ink.length c2, .bool false] 109)) w2.heap.size (some ink) from ⟨p2, ink.length, c2, false, ink, B3, HI.out, rfl⟩)
    have HX3 := Lib.hid (HX2.out.next b3)
    have HB3 := Lib.hid b3
    clear b3 B3
    go_upto_region 5 with fail
    obtain ⟨g, hg⟩ : ∃ g, g = w2.heap.size := ⟨_, rfl⟩
    have hgg : w2.heap.size ≤ g := Nat.le_of_eq hg.symm
    have hrg : gr < g := by rw [hg]; exact hgl
    rw [← hg] at HT3 z3 ⊢
    clear hg
    generalize (w2.alloc (.cells #[.slice p2 ink.length c2, .bool false] 109)) = w3 at *
    obtain ⟨a, s1, hA⟩ : ∃ a s1, gt 100000 (some ink) = (a, s1) := ⟨_, _, rfl⟩
    obtain ⟨ph, s2, hB⟩ : ∃ a s', gt 1 s1 = (a, s') := ⟨_, _, rfl⟩
    obtain ⟨fr, s3, hC⟩ : ∃ a s', gt 1 s2 = (a, s') := ⟨_, _, rfl⟩
    obtain ⟨N, s4, hD⟩ : ∃ a s', gt 200 s3 = (a, s') := ⟨_, _, rfl⟩
    have hN : N ≤ 200 := by have := gt_le 200 s3; rw [hD] at this; exact this
    have HA := Lib.hid hA
    have HB := Lib.hid hB
    have HC := Lib.hid hC
    have HD := Lib.hid hD
    obtain ⟨f, hf⟩ : ∃ f, f = (fr == 1) := ⟨_, rfl⟩
    have HF := Lib.hid hf
    have hff : ((fr : Int) == 1) = f := by
      rw [hf]
      by_cases h : fr = 1
      · subst h; rfl
      · rw [beq_eq_false_iff_ne.2 h]; exact beq_eq_false_iff_ne.2 (by omega)
    clear hA hB hC hD hf
    go_wp2_with fail
    refine (taken_at _ g 100000 a _ s1 w2 _ rfl HA.out HT3.out HB3.out hgg (by omega)).mono ?_; rintro e w4 ⟨rfl, ht4, hg4, hb4⟩
    have HT4 := Lib.hid ht4
    have HB4 := Lib.hid hb4
    have HX4 := Lib.hid (HX3.out.grown hg4 (fun e => by cases e; omega))
    have hz4 := hg4.size
    clear ht4 hb4 hg4
    go_wp2_with fail
    refine (taken_at _ g 1 ph _ s2 w2 _ rfl HB.out HT4.out HB4.out hgg (by omega)).mono ?_; rintro e w5 ⟨rfl, ht5, hg5, hb5⟩
    have HT5 := Lib.hid ht5
    have HB5 := Lib.hid hb5
    have HX5 := Lib.hid (HX4.out.grown hg5 (fun e => by cases e; omega))
    have hz5 := hg5.size
    clear ht5 hb5 hg5
    go_wp2_with fail
    refine (taken_at _ g 1 fr _ s3 w2 _ rfl HC.out HT5.out HB5.out hgg (by omega)).mono ?_; rintro e w6 ⟨rfl, ht6, hg6, hb6⟩
    have HX6 := Lib.hid (HX5.out.grown hg6 (fun e => by cases e; omega))
    have hz6 := hg6.size
    obtain ⟨b7, B7, z7⟩ := boxed0 w6 [.int .i64 (a : Int), .int .i64 (ph : Int), .bool f, .slice none 0 0, .slice none 0 0] 51
    have HX7 := Lib.hid (HX6.out.next b7)
    have HT7 := Lib.hid (ht6.keep b7)
    have HB7 := Lib.hid (hb6.trans (b7.mono hb6.size))
    have HXS7 := Lib.hid B7
    clear ht6 hb6 hg6 B7 b7 HT3 HT4 HT5 HX3 HX4 HX5 HX6 HB3 HB4 HB5
    go_wp2_with fail
    obtain ⟨h, hh⟩ : ∃ h, h = w6.heap.size := ⟨_, rfl⟩
    have hgh : g < h := by omega
    rw [← hh] at HXS7 z7 ⊢
    clear hh
    generalize (w6.alloc (.cells #[.int .i64 (a : Int), .int .i64 (ph : Int), .bool f, .slice none 0 0, .slice none 0 0] 51)) = w7 at *
    refine (taken_at _ g 200 N _ s4 w2 _ rfl HD.out HT7.out HB7.out hgg (by omega)).mono ?_; rintro e w8 ⟨rfl, ht8, hg8, hb8⟩
    have HT8 := Lib.hid ht8
    have HB8 := Lib.hid hb8
    have HX8 := Lib.hid (HX7.out.grown hg8 (fun e => by cases e; omega))
    have HXS8 := Lib.hid (HXS7.out.grown hg8 (fun e => by cases e; omega))
    have hz8 : h + 1 ≤ w8.heap.size := Nat.le_trans z7 hg8.size
    clear ht8 hg8 hb8 HT7 HB7 HX7 HXS7 z7 z3 hz4 hz5 hz6 hff
    go_wp2_with fail
    go_loopg [9] N (fun gk v9 wr => ∃ (k : Nat) (vs : List (Nat × Nat)) (p3 : Option Addr) (c3 : Nat) (st : Option (List Nat)), v9 = .int .i64 (gk : Int) ∧ k + gk = N ∧ Hid (k = vs.length) ∧ Hid (TkSt w2 wr g st) ∧ Hid (Bx wr h [.int .i64 (a : Int), .int .i64 (ph : Int), .bool f, .slice p3 k c3, .slice none 0 0]) ∧ Hid (wr.ownsRow (h + 1) 96 2 (.slice p3 k c3) k (vcs vs)) ∧ Hid (Below w2.heap.size w2 wr) ∧ Hid (Bx wr gr [.int .i64 0, .int .i64 0, .bool false, .slice none 0 0, .slice none 0 0]) ∧ Hid (prs 4398046511105 200 N s4 = (vs ++ (prs 4398046511105 200 gk st).1, (prs 4398046511105 200 gk st).2)) ∧ h + 1 ≤ wr.heap.size)
    case atStart => exact ⟨0, [], none, 0, s4, rfl, by omega, Lib.hid rfl, HT8, HXS8, Lib.hid (World.ownsRow_nil _ _ _ _), HB8, HX8, Lib.hid (by simp), hz8⟩
    case round =>
      clear HT8 HXS8 HB8 HX8 hz8
      obtain ⟨k, vs, p3, c3, st, rfl, hgk, HVK, HT, HXS, HOV, HB2, HXR, HP, hsz⟩ := hrel
      go_upto_region 7 with fail
      go_cut [42] (fun s42 wx => s42 = .bool (decide (0 < gk) && st.isSome) ∧ wr = wx)
      case first =>
        obtain ⟨pt, nt, ct, bd, lt, hxt, -, hst⟩ := HT.out
        obtain ⟨ht0, ht1, _, _⟩ := hxt.two
        by_cases h0 : 0 < gk
        · have hd1 : decide ((0 : Int) < (gk : Int)) = true := by simp; omega
          have hd2 : decide (0 < gk) = true := by simp; omega
          have HST := Lib.hid hst
          clear hst hxt
          go_wp2_with fail
          go_meet
          case rel => exact ⟨by rw [HST.out, hd2]; cases bd <;> rfl, rfl⟩
        · have hd1 : decide ((0 : Int) < (gk : Int)) = false := by simp; omega
          have hd2 : decide (0 < gk) = false := by simp; omega
          clear hst hxt
          go_wp2_with fail
          go_meet
          case rel => exact ⟨by rw [hd2]; rfl, rfl⟩
      case rest =>
      obtain ⟨rfl, rfl⟩ := hcut
      by_cases hgo : (decide (0 < gk) && st.isSome) = true
      · rw [hgo]
        simp only [Bool.and_eq_true, decide_eq_true_eq] at hgo
        obtain ⟨h0, hsome⟩ := hgo
        obtain ⟨left, rfl⟩ := Option.isSome_iff_exists.1 hsome
        obtain ⟨m, hm⟩ : ∃ m, gk = m + 1 := ⟨gk - 1, by omega⟩
        have HM := Lib.hid hm
        obtain ⟨x1, t1, hG1⟩ : ∃ a s', gt 4398046511105 (some left) = (a, s') := ⟨_, _, rfl⟩
        obtain ⟨x2, t2, hG2⟩ : ∃ a s', gt 200 t1 = (a, s') := ⟨_, _, rfl⟩
        have hx1 : x1 ≤ 4398046511105 := by have := gt_le 4398046511105 (some left); rw [hG1] at this; exact this
        have hx2 : x2 ≤ 200 := by have := gt_le 200 t1; rw [hG2] at this; exact this
        have HG1 := Lib.hid hG1
        have HG2 := Lib.hid hG2
        have HP2 := Lib.hid (show prs 4398046511105 200 N s4 = ((vs ++ [(x1, x2)]) ++ (prs 4398046511105 200 m t2).1, (prs 4398046511105 200 m t2).2) from by rw [HP.out, hm, prs_succ, hG1]; dsimp only; rw [hG2]; simp [List.append_assoc])
        have HGK := Lib.hid hgk
        have hkN : k + 1 + m = N := by omega
        have HKN := Lib.hid hkN
        have hk2 : k + 1 ≤ 5000 := by omega
        have hgb : (gk : Int) ≤ 5000 := by omega
        have hg0 : (0 : Int) < (gk : Int) := by omega
        have hwx1 : IntKind.i64.wrap ((x1 : Int) - 1) = (x1 : Int) - 1 := IntWalk.i64_in _ (by omega)
        have hwx2 : IntKind.i64.wrap ((x2 : Int) - 1) = (x2 : Int) - 1 := IntWalk.i64_in _ (by omega)
        clear hG1 hG2 hsome hm hgk hkN HP
        go_upto_region 9 with fail
        obtain ⟨hq0, hq1, hq2, hq3, hq4⟩ := HXS.out.five
        obtain ⟨S, hSI⟩ : ∃ S : World → Prop, ∀ w', S w' ↔ (w'.cell? ⟨h, 3, none⟩ = some (Value.slice p3 k c3)) := ⟨fun w' => _, fun w' => Iff.rfl⟩
        have HSI := Lib.hid hSI
        clear hSI
        refine wp_region_L S 12 (by kernel_rfl) ((HSI.out _).2 hq3) (fun hS => ?_)
        clear hq0 hq1 hq2 hq3 hq4
        refine wpAnyL_take 0 (v := ?_) rfl rfl (by kernel_rfl) (by kernel_rfl) (by kernel_rfl) (by kernel_rfl) (fun _ _ _ h => h) (Or.inl ⟨by rfl, ?_⟩) hS ?_; rotate_left; · intro w hSw; go_simp <;> with_reducible rfl
        try simp only [Act.put, List.setIfInBounds_toArray, List.set_cons_zero, List.set_cons_succ]
        refine wpAnyL_take 1 (v := ?_) rfl rfl (by kernel_rfl) (by kernel_rfl) (by kernel_rfl) (by kernel_rfl) (fun _ _ _ h => h) (Or.inl ⟨by rfl, ?_⟩) hS ?_; rotate_left; · intro w hSw; have hz0 := (HSI.out w).1 hSw; go_simp <;> with_reducible rfl
        try simp only [Act.put, List.setIfInBounds_toArray, List.set_cons_zero, List.set_cons_succ]
        refine wpAnyL_take 2 (v := ?_) rfl rfl (by kernel_rfl) (by kernel_rfl) (by kernel_rfl) (by kernel_rfl) (fun _ _ _ h => h) (Or.inl ⟨by rfl, ?_⟩) hS ?_; rotate_left; · intro w hSw; go_simp <;> with_reducible rfl
        try simp only [Act.put, List.setIfInBounds_toArray, List.set_cons_zero, List.set_cons_succ]
        refine wpAnyL_take 5 (v := ?_) rfl rfl (by kernel_rfl) (by kernel_rfl) (by kernel_rfl) (by kernel_rfl) (fun _ _ _ h => h) (Or.inl ⟨by rfl, ?_⟩) hS ?_; rotate_left; · intro w hSw; go_simp <;> with_reducible rfl
        try simp only [Act.put, List.setIfInBounds_toArray, List.set_cons_zero, List.set_cons_succ]
        refine wpAnyL_one 3 rfl rfl (by kernel_rfl) ?_; intro K hK; rw [if_pos (by rfl)]
        go_simp
        refine (taken_at _ g 4398046511105 x1 _ t1 w2 _ rfl HG1.out (HT.out.keep (Below.refl _ wr).drew) HB2.out.drew hgg (by omega)).mono ?_; rintro e w5 ⟨rfl, ht5, hg5, hb5⟩
        have hX5 : Bx w5 h [.int .i64 (a : Int), .int .i64 (ph : Int), .bool f, .slice p3 k c3, .slice none 0 0] := (show Bx wr.drew h [.int .i64 (a : Int), .int .i64 (ph : Int), .bool f, .slice p3 k c3, .slice none 0 0] from HXS.out).grown hg5 (fun e => by cases e; omega)
        have hR5 : Bx w5 gr [.int .i64 0, .int .i64 0, .bool false, .slice none 0 0, .slice none 0 0] := (show Bx wr.drew gr _ from HXR.out).grown hg5 (fun e => by cases e; omega)
        have hO5 := own_grown (own_later HOV.out (Below.refl _ wr).drew) hg5 (fun j hj e => by cases e; have := (HOV.out.lt _ hj).1; omega)
        have hz5 : h + 1 ≤ w5.heap.size := Nat.le_trans hsz hg5.size
        have hq2 := (hX5.at (i := 3) rfl).1
        refine hK.out _ _ (fun _ => (HSI.out _).2 hq2) ?_; clear hK K
        have hS := (HSI.out _).2 hq2
        clear hq2
        try simp only [Act.put, List.setIfInBounds_toArray, List.set_cons_zero, List.set_cons_succ]
        refine wpAnyL_take 4 (v := .int .i64 ((x1 : Int) - 1)) rfl rfl (by kernel_rfl) (by kernel_rfl) (by kernel_rfl) (by kernel_rfl) (fun _ _ _ h => h) (Or.inl ⟨by rfl, ?_⟩) hS ?_; · intro w hSw; go_simp <;> with_reducible rfl
        try simp only [Act.put, List.setIfInBounds_toArray, List.set_cons_zero, List.set_cons_succ]
        refine wpAnyL_one 6 rfl rfl (by kernel_rfl) ?_; intro K hK; rw [if_pos (by rfl)]
        go_simp
        refine (taken_at _ g 200 x2 _ t2 w2 _ rfl HG2.out ht5 hb5 hgg (by omega)).mono ?_; rintro e w6 ⟨rfl, ht6, hg6, hb6⟩
        have hX6 := hX5.grown hg6 (fun e => by cases e; omega)
        have hR6 := hR5.grown hg6 (fun e => by cases e; omega)
        have hO6 := own_grown hO5 hg6 (fun j hj e => by cases e; have := (hO5.lt _ hj).1; omega)
        have hz6 : h + 1 ≤ w6.heap.size := Nat.le_trans hz5 hg6.size
        have hq2 := (hX6.at (i := 3) rfl).1
        refine hK.out _ _ (fun _ => (HSI.out _).2 hq2) ?_; clear hK K
        have hS := (HSI.out _).2 hq2
        clear hq2
        try simp only [Act.put, List.setIfInBounds_toArray, List.set_cons_zero, List.set_cons_succ]
        refine wpAnyL_take 7 (v := .int .i64 ((x2 : Int) - 1)) rfl rfl (by kernel_rfl) (by kernel_rfl) (by kernel_rfl) (by kernel_rfl) (fun _ _ _ h => h) (Or.inl ⟨by rfl, ?_⟩) hS ?_; · intro w hSw; go_simp <;> with_reducible rfl
        try simp only [Act.put, List.setIfInBounds_toArray, List.set_cons_zero, List.set_cons_succ]
        refine wpAnyL_take 8 (v := ?_) rfl rfl (by kernel_rfl) (by kernel_rfl) (by kernel_rfl) (by kernel_rfl) (fun _ _ _ h => h) (Or.inl ⟨by rfl, ?_⟩) hS ?_; rotate_left; · intro w hSw; go_simp <;> with_reducible rfl
        try simp only [Act.put, List.setIfInBounds_toArray, List.set_cons_zero, List.set_cons_succ]
        refine wpAnyL_one 9 rfl rfl (by kernel_rfl) ?_; intro K hK; rw [if_pos (by rfl)]
        go_simp
        have hX7 := hX6.alloc (.cells #[.int .i64 ((x1 : Int) - 1), .int .i64 ((x2 : Int) - 1)] 96)
        have hq2 := (hX7.at (i := 3) rfl).1
        refine hK.out _ _ (fun _ => (HSI.out _).2 hq2) ?_; clear hK K
        have hS := (HSI.out _).2 hq2
        clear hq2
        try simp only [Act.put, List.setIfInBounds_toArray, List.set_cons_zero, List.set_cons_succ]
        refine wpAnyL_one 10 rfl rfl (by kernel_rfl) ?_; intro K hK; rw [if_pos (by rfl)]
        refine wp_app_op (w0 := (w6.alloc (.cells #[.int .i64 ((x1 : Int) - 1), .int .i64 ((x2 : Int) - 1)] 96))) (.tmp 46) (.tmp 54) _ rfl (h + 1) 96 rfl inf_valD rfl (by decide) rfl (hO6.alloc _) rfl (m := 1) (news := [.int .i64 ((x1 : Int) - 1), .int .i64 ((x2 : Int) - 1)]) (sl_new w6 [.int .i64 ((x1 : Int) - 1), .int .i64 ((x2 : Int) - 1)] 96) (by simp [Value.oneCell']) (by unfold maxLen; omega) (by omega) (Below.refl _ _) (by simp; omega) ?_
        intro p7 c7 w7 hown7 hb7 hs7 hg7 hnb7
        clear hS
        have hX8 := hX7.grown hg7 (fun e => by have := (hO6.lt _ e).1; omega)
        have hR8 := (hR6.alloc (.cells #[.int .i64 ((x1 : Int) - 1), .int .i64 ((x2 : Int) - 1)] 96)).grown hg7 (fun e => by have := (hO6.lt _ e).1; omega)
        have hT8 := (ht6.keep (alloc_below w6 (.cells #[.int .i64 ((x1 : Int) - 1), .int .i64 ((x2 : Int) - 1)] 96))).grown hg7 (fun e => by have := (hO6.lt _ e).1; omega)
        have hB8 := (hb6.trans ((alloc_below w6 (.cells #[.int .i64 ((x1 : Int) - 1), .int .i64 ((x2 : Int) - 1)] 96)).mono hb6.size)).grown hg7 (by have := hb6.size; simp; omega) (fun j hj => by have := (hO6.lt j hj).1; omega)
        have hq2 := (hX8.at (i := 3) rfl).1
        have hqf := (hX8.at (i := 3) rfl).2
        refine hK.out _ _ (fun _ => (HSI.out _).2 hq2) ?_; clear hK K
        have hS := (HSI.out _).2 hq2
        try simp only [Act.put, List.setIfInBounds_toArray, List.set_cons_zero, List.set_cons_succ]
        refine wpAnyL_take 11 (v := ?_) rfl rfl (by kernel_rfl) (by kernel_rfl) (by kernel_rfl) (by kernel_rfl) (fun _ _ _ h => h) (Or.inl ⟨by rfl, ?_⟩) hS ?_; rotate_left; · intro w hSw; go_simp <;> with_reducible rfl
        try simp only [Act.put, List.setIfInBounds_toArray, List.set_cons_zero, List.set_cons_succ]
        refine wpAnyL_one 12 rfl rfl (by kernel_rfl) ?_; intro K hK; rw [if_pos (by rfl)]
        go_simp
        refine hK.out _ _ (fun h => absurd rfl h) ?_; clear hK K
        refine wpAnyL_done (by kernel_rfl) ?_ _
        have HX9 := Lib.hid (show Bx (w7.setCell ⟨h, 3, none⟩ (.slice p7 (k + 1) c7)) h [.int .i64 (a : Int), .int .i64 (ph : Int), .bool f, .slice p7 (k + 1) c7, .slice none 0 0] from hX8.setc 3 _)
        have HR9 := Lib.hid (show Bx (w7.setCell ⟨h, 3, none⟩ (.slice p7 (k + 1) c7)) gr [.int .i64 0, .int .i64 0, .bool false, .slice none 0 0, .slice none 0 0] from bx_oth hR8 (by show gr ≠ h; omega) _)
        have HT9 := Lib.hid (hT8.grown (grown_set (s := h) (i := 3) (u := .slice p7 (k + 1) c7)) (fun e => by cases e; omega))
        have HO9 := Lib.hid (show ((w7.setCell ⟨h, 3, none⟩ (.slice p7 (k + 1) c7))).ownsRow (h + 1) 96 2 (.slice p7 (k + 1) c7) (k + 1) (vcs (vs ++ [(x1, x2)])) from by rw [vcs_snoc]; exact own_ne_st hown7 (Nat.lt_succ_self h) _ _)
        have HB9 := Lib.hid (show Below w2.heap.size w2 (w7.setCell ⟨h, 3, none⟩ (.slice p7 (k + 1) c7)) from hB8.setCell (by show w2.heap.size ≤ h; omega) _)
        have hz9 : h + 1 ≤ (w7.setCell ⟨h, 3, none⟩ (.slice p7 (k + 1) c7)).heap.size := by have := HX9.out.lt; omega
        have HVK2 := Lib.hid (show k + 1 = (vs ++ [(x1, x2)]).length from by rw [List.length_append, ← HVK.out]; rfl)
        clear hS hq2 hqf hX5 hX6 hX7 hX8 hR5 hR6 hR8 hT8 hO5 hO6 hB8 ht5 ht6 hb5 hb6 hg5 hg6 hg7 hown7 hb7 hs7 hnb7
        go_wp2_with fail
        go_roundg m
        case measure => have := HM.out; omega
        case rel => exact ⟨k + 1, vs ++ [(x1, x2)], p7, c7, t2, by congr 1; have := HM.out; omega, HKN.out, HVK2, HT9, HX9, HO9, HB9, HR9, HP2, hz9⟩
      · have hgf : (decide (0 < gk) && st.isSome) = false := by simpa using hgo
        rw [hgf]
        have HE := Lib.hid (show prs 4398046511105 200 N s4 = (vs, st) from by
          rw [HP.out]
          cases st with
          | none => rw [prs_none, List.append_nil]
          | some left =>
            have : gk = 0 := by simp at hgf; omega
            subst this
            show (vs ++ [], some left) = _
            rw [List.append_nil])
        clear HP hgo hgf
        obtain ⟨w9, hw9⟩ : ∃ w9 : World, w9 = wr := ⟨_, rfl⟩
        rw [← hw9] at HT HXS HOV HB2 HXR hsz ⊢
        clear hw9
        obtain ⟨m5, s6, hM5⟩ : ∃ a s', gt 5000 st = (a, s') := ⟨_, _, rfl⟩
        have hm5 : m5 ≤ 5000 := by have := gt_le 5000 st; rw [hM5] at this; exact this
        have HM5 := Lib.hid hM5
        have HK1 := Lib.hid hgk
        clear hM5 hgk
        go_wp2_with fail
        refine (taken_at _ g 5000 m5 _ s6 w2 _ rfl HM5.out HT.out HB2.out hgg (by omega)).mono ?_; rintro e w10 ⟨rfl, ht9, hg9, hb9⟩
        have HT9 := Lib.hid ht9
        have HB9 := Lib.hid hb9
        have HX9 := Lib.hid (HXR.out.grown hg9 (fun e => by cases e; omega))
        have HXS9 := Lib.hid (HXS.out.grown hg9 (fun e => by cases e; omega))
        have HOV9 := Lib.hid (own_grown HOV.out hg9 (fun j hj e => by cases e; have := (HOV.out.lt _ hj).1; omega))
        have hz9 : h + 1 ≤ w10.heap.size := Nat.le_trans hsz hg9.size
        have HVV0 := Lib.hid (show k = vs.length from HVK.out)
        obtain ⟨vv, hvv⟩ : ∃ vv, vv = vs := ⟨_, rfl⟩
        obtain ⟨nv, hnv⟩ : ∃ nv, nv = k := ⟨_, rfl⟩
        obtain ⟨pv, hpv⟩ : ∃ pv, pv = p3 := ⟨_, rfl⟩
        obtain ⟨cv, hcv⟩ : ∃ cv, cv = c3 := ⟨_, rfl⟩
        obtain ⟨s5, hs5⟩ : ∃ s5, s5 = st := ⟨_, rfl⟩
        rw [← hvv, ← hs5] at HE
        rw [← hvv, ← hnv, ← hpv, ← hcv] at HOV9
        rw [← hnv, ← hpv, ← hcv] at HXS9
        rw [← hs5] at HM5
        rw [← hvv, ← hnv] at HVV0
        have HE1 := HE
        clear ht9 hb9 hg9 HT HXS HOV HB2 HXR hsz HVK HE hvv hnv hpv hcv hs5 HK1
        go_wp2_with fail
        go_loopg [10] m5 (fun gk v9 wr => ∃ (k : Nat) (vs : List (Nat × Nat)) (p3 : Option Addr) (c3 : Nat) (st : Option (List Nat)), v9 = .int .i64 (gk : Int) ∧ k + gk = m5 ∧ Hid (k = vs.length) ∧ Hid (TkSt w2 wr g st) ∧ Hid (Bx wr h [.int .i64 (a : Int), .int .i64 (ph : Int), .bool f, .slice pv nv cv, .slice p3 k c3]) ∧ Hid (wr.ownsRow (h + 1) 103 2 (.slice p3 k c3) k (mcs vs)) ∧ Hid (Below w2.heap.size w2 wr) ∧ Hid (Bx wr gr [.int .i64 0, .int .i64 0, .bool false, .slice none 0 0, .slice none 0 0]) ∧ Hid (prs 199 4398046511104 m5 s6 = (vs ++ (prs 199 4398046511104 gk st).1, (prs 199 4398046511104 gk st).2)) ∧ h + 1 ≤ wr.heap.size ∧ Hid (wr.ownsRow (h + 1) 96 2 (.slice pv nv cv) nv (vcs vv))  ∧ Hid (∀ j, (Value.slice p3 k c3).ownBlock = some j → (Value.slice pv nv cv).ownBlock ≠ some j))
        case atStart => exact ⟨0, [], none, 0, s6, rfl, by omega, Lib.hid rfl, HT9, HXS9, Lib.hid (World.ownsRow_nil _ _ _ _), HB9, HX9, Lib.hid (by simp), hz9, HOV9, Lib.hid (fun j hj => by simp [Value.ownBlock] at hj)⟩
        case round =>
          clear HT9 HXS9 HB9 HX9 hz9 HOV9
          obtain ⟨k, vs, p3, c3, st, rfl, hgk, HVK, HT, HXS, HOV, HB2, HXR, HP, hsz, HVV, HAP⟩ := hrel
          go_upto_region 11 with fail
          go_cut [67] (fun s42 wx => s42 = .bool (decide (0 < gk) && st.isSome) ∧ wr = wx)
          case first =>
            obtain ⟨pt, nt, ct, bd, lt, hxt, -, hst⟩ := HT.out
            obtain ⟨ht0, ht1, _, _⟩ := hxt.two
            by_cases h0 : 0 < gk
            · have hd1 : decide ((0 : Int) < (gk : Int)) = true := by simp; omega
              have hd2 : decide (0 < gk) = true := by simp; omega
              have HST := Lib.hid hst
              clear hst hxt
              go_wp2_with fail
              go_meet
              case rel => exact ⟨by rw [HST.out, hd2]; cases bd <;> rfl, rfl⟩
            · have hd1 : decide ((0 : Int) < (gk : Int)) = false := by simp; omega
              have hd2 : decide (0 < gk) = false := by simp; omega
              clear hst hxt
              go_wp2_with fail
              go_meet
              case rel => exact ⟨by rw [hd2]; rfl, rfl⟩
          case rest =>
          obtain ⟨rfl, rfl⟩ := hcut
          by_cases hgo : (decide (0 < gk) && st.isSome) = true
          · rw [hgo]
            simp only [Bool.and_eq_true, decide_eq_true_eq] at hgo
            obtain ⟨h0, hsome⟩ := hgo
            obtain ⟨left, rfl⟩ := Option.isSome_iff_exists.1 hsome
            obtain ⟨m, hm⟩ : ∃ m, gk = m + 1 := ⟨gk - 1, by omega⟩
            have HM := Lib.hid hm
            obtain ⟨x1, t1, hG1⟩ : ∃ a s', gt 199 (some left) = (a, s') := ⟨_, _, rfl⟩
            obtain ⟨x2, t2, hG2⟩ : ∃ a s', gt 4398046511104 t1 = (a, s') := ⟨_, _, rfl⟩
            have hx1 : x1 ≤ 199 := by have := gt_le 199 (some left); rw [hG1] at this; exact this
            have hx2 : x2 ≤ 4398046511104 := by have := gt_le 4398046511104 t1; rw [hG2] at this; exact this
            have HG1 := Lib.hid hG1
            have HG2 := Lib.hid hG2
            have HP2 := Lib.hid (show prs 199 4398046511104 m5 s6 = ((vs ++ [(x1, x2)]) ++ (prs 199 4398046511104 m t2).1, (prs 199 4398046511104 m t2).2) from by rw [HP.out, hm, prs_succ, hG1]; dsimp only; rw [hG2]; simp [List.append_assoc])
            have HGK := Lib.hid hgk
            have hkN : k + 1 + m = m5 := by omega
            have HKN := Lib.hid hkN
            have hk2 : k + 1 ≤ 5000 := by omega
            have hgb : (gk : Int) ≤ 5000 := by omega
            have hg0 : (0 : Int) < (gk : Int) := by omega
            clear hG1 hG2 hsome hm hgk hkN HP
            go_upto_region 13 with fail
            obtain ⟨hq0, hq1, hq2, hq3, hq4⟩ := HXS.out.five
            obtain ⟨S, hSI⟩ : ∃ S : World → Prop, ∀ w', S w' ↔ (w'.cell? ⟨h, 4, none⟩ = some (Value.slice p3 k c3)) := ⟨fun w' => _, fun w' => Iff.rfl⟩
            have HSI := Lib.hid hSI
            clear hSI
            refine wp_region_L S 10 (by kernel_rfl) ((HSI.out _).2 hq4) (fun hS => ?_)
            clear hq0 hq1 hq2 hq3 hq4
            refine wpAnyL_take 0 (v := ?_) rfl rfl (by kernel_rfl) (by kernel_rfl) (by kernel_rfl) (by kernel_rfl) (fun _ _ _ h => h) (Or.inl ⟨by rfl, ?_⟩) hS ?_; rotate_left; · intro w hSw; go_simp <;> with_reducible rfl
            try simp only [Act.put, List.setIfInBounds_toArray, List.set_cons_zero, List.set_cons_succ]
            refine wpAnyL_take 1 (v := ?_) rfl rfl (by kernel_rfl) (by kernel_rfl) (by kernel_rfl) (by kernel_rfl) (fun _ _ _ h => h) (Or.inl ⟨by rfl, ?_⟩) hS ?_; rotate_left; · intro w hSw; have hz0 := (HSI.out w).1 hSw; go_simp <;> with_reducible rfl
            try simp only [Act.put, List.setIfInBounds_toArray, List.set_cons_zero, List.set_cons_succ]
            refine wpAnyL_take 2 (v := ?_) rfl rfl (by kernel_rfl) (by kernel_rfl) (by kernel_rfl) (by kernel_rfl) (fun _ _ _ h => h) (Or.inl ⟨by rfl, ?_⟩) hS ?_; rotate_left; · intro w hSw; go_simp <;> with_reducible rfl
            try simp only [Act.put, List.setIfInBounds_toArray, List.set_cons_zero, List.set_cons_succ]
            refine wpAnyL_take 4 (v := ?_) rfl rfl (by kernel_rfl) (by kernel_rfl) (by kernel_rfl) (by kernel_rfl) (fun _ _ _ h => h) (Or.inl ⟨by rfl, ?_⟩) hS ?_; rotate_left; · intro w hSw; go_simp <;> with_reducible rfl
            try simp only [Act.put, List.setIfInBounds_toArray, List.set_cons_zero, List.set_cons_succ]
            refine wpAnyL_one 3 rfl rfl (by kernel_rfl) ?_; intro K hK; rw [if_pos (by rfl)]
            go_simp
            refine (taken_at _ g 199 x1 _ t1 w2 _ rfl HG1.out (HT.out.keep (Below.refl _ wr).drew) HB2.out.drew hgg (by omega)).mono ?_; rintro e w5 ⟨rfl, ht5, hg5, hb5⟩
            have hX5 : Bx w5 h [.int .i64 (a : Int), .int .i64 (ph : Int), .bool f, .slice pv nv cv, .slice p3 k c3] := (show Bx wr.drew h [.int .i64 (a : Int), .int .i64 (ph : Int), .bool f, .slice pv nv cv, .slice p3 k c3] from HXS.out).grown hg5 (fun e => by cases e; omega)
            have hR5 : Bx w5 gr [.int .i64 0, .int .i64 0, .bool false, .slice none 0 0, .slice none 0 0] := (show Bx wr.drew gr _ from HXR.out).grown hg5 (fun e => by cases e; omega)
            have hO5 := own_grown (own_later HOV.out (Below.refl _ wr).drew) hg5 (fun j hj e => by cases e; have := (HOV.out.lt _ hj).1; omega)
            have hV5 := own_grown (own_later HVV.out (Below.refl _ wr).drew) hg5 (fun j hj e => by cases e; have := (HVV.out.lt _ hj).1; omega)
            have hz5 : h + 1 ≤ w5.heap.size := Nat.le_trans hsz hg5.size
            have hq2 := (hX5.at (i := 4) rfl).1
            refine hK.out _ _ (fun _ => (HSI.out _).2 hq2) ?_; clear hK K
            have hS := (HSI.out _).2 hq2
            clear hq2
            try simp only [Act.put, List.setIfInBounds_toArray, List.set_cons_zero, List.set_cons_succ]
            refine wpAnyL_one 5 rfl rfl (by kernel_rfl) ?_; intro K hK; rw [if_pos (by rfl)]
            go_simp
            refine (taken_at _ g 4398046511104 x2 _ t2 w2 _ rfl HG2.out ht5 hb5 hgg (by omega)).mono ?_; rintro e w6 ⟨rfl, ht6, hg6, hb6⟩
            have hX6 := hX5.grown hg6 (fun e => by cases e; omega)
            have hR6 := hR5.grown hg6 (fun e => by cases e; omega)
            have hO6 := own_grown hO5 hg6 (fun j hj e => by cases e; have := (hO5.lt _ hj).1; omega)
            have hV6 := own_grown hV5 hg6 (fun j hj e => by cases e; have := (hV5.lt _ hj).1; omega)
            have hz6 : h + 1 ≤ w6.heap.size := Nat.le_trans hz5 hg6.size
            have hq2 := (hX6.at (i := 4) rfl).1
            refine hK.out _ _ (fun _ => (HSI.out _).2 hq2) ?_; clear hK K
            have hS := (HSI.out _).2 hq2
            clear hq2
            try simp only [Act.put, List.setIfInBounds_toArray, List.set_cons_zero, List.set_cons_succ]
            refine wpAnyL_take 6 (v := ?_) rfl rfl (by kernel_rfl) (by kernel_rfl) (by kernel_rfl) (by kernel_rfl) (fun _ _ _ h => h) (Or.inl ⟨by rfl, ?_⟩) hS ?_; rotate_left; · intro w hSw; go_simp <;> with_reducible rfl
            try simp only [Act.put, List.setIfInBounds_toArray, List.set_cons_zero, List.set_cons_succ]
            refine wpAnyL_one 7 rfl rfl (by kernel_rfl) ?_; intro K hK; rw [if_pos (by rfl)]
            go_simp
            have hX7 := hX6.alloc (.cells #[.int .i64 (x1 : Int), .int .i64 (x2 : Int)] 103)
            have hq2 := (hX7.at (i := 4) rfl).1
            refine hK.out _ _ (fun _ => (HSI.out _).2 hq2) ?_; clear hK K
            have hS := (HSI.out _).2 hq2
            clear hq2
            try simp only [Act.put, List.setIfInBounds_toArray, List.set_cons_zero, List.set_cons_succ]
            refine wpAnyL_one 8 rfl rfl (by kernel_rfl) ?_; intro K hK; rw [if_pos (by rfl)]
            refine wp_app_op (w0 := (w6.alloc (.cells #[.int .i64 (x1 : Int), .int .i64 (x2 : Int)] 103))) (.tmp 71) (.tmp 77) _ rfl (h + 1) 103 rfl inf_mailD rfl (by decide) rfl (hO6.alloc _) rfl (m := 1) (news := [.int .i64 (x1 : Int), .int .i64 (x2 : Int)]) (sl_new w6 [.int .i64 (x1 : Int), .int .i64 (x2 : Int)] 103) (by simp [Value.oneCell']) (by unfold maxLen; omega) (by omega) (Below.refl _ _) (by simp; omega) ?_
            intro p7 c7 w7 hown7 hb7 hs7 hg7 hnb7
            clear hS
            have hX8 := hX7.grown hg7 (fun e => by have := (hO6.lt _ e).1; omega)
            have hR8 := (hR6.alloc (.cells #[.int .i64 (x1 : Int), .int .i64 (x2 : Int)] 103)).grown hg7 (fun e => by have := (hO6.lt _ e).1; omega)
            have hT8 := (ht6.keep (alloc_below w6 (.cells #[.int .i64 (x1 : Int), .int .i64 (x2 : Int)] 103))).grown hg7 (fun e => by have := (hO6.lt _ e).1; omega)
            have hB8 := (hb6.trans ((alloc_below w6 (.cells #[.int .i64 (x1 : Int), .int .i64 (x2 : Int)] 103)).mono hb6.size)).grown hg7 (by have := hb6.size; simp; omega) (fun j hj => by have := (hO6.lt j hj).1; omega)
            have hV8 := own_grown (hV6.alloc (.cells #[.int .i64 (x1 : Int), .int .i64 (x2 : Int)] 103)) hg7 (fun j hj e => HAP.out j e hj)
            have hA8 : ∀ j, (Value.slice p7 (k + 1) c7).ownBlock = some j → (Value.slice pv nv cv).ownBlock ≠ some j := fun j hj => by
              rcases hnb7 with e | e
              · rw [e] at hj; exact HAP.out j hj
              · rw [e] at hj; cases hj; intro e2; have := (hV6.lt _ e2).2; simp at this; omega
            have hq2 := (hX8.at (i := 4) rfl).1
            have hqf := (hX8.at (i := 4) rfl).2
            refine hK.out _ _ (fun _ => (HSI.out _).2 hq2) ?_; clear hK K
            have hS := (HSI.out _).2 hq2
            try simp only [Act.put, List.setIfInBounds_toArray, List.set_cons_zero, List.set_cons_succ]
            refine wpAnyL_take 9 (v := ?_) rfl rfl (by kernel_rfl) (by kernel_rfl) (by kernel_rfl) (by kernel_rfl) (fun _ _ _ h => h) (Or.inl ⟨by rfl, ?_⟩) hS ?_; rotate_left; · intro w hSw; go_simp <;> with_reducible rfl
            try simp only [Act.put, List.setIfInBounds_toArray, List.set_cons_zero, List.set_cons_succ]
            refine wpAnyL_one 10 rfl rfl (by kernel_rfl) ?_; intro K hK; rw [if_pos (by rfl)]
            go_simp
            refine hK.out _ _ (fun h => absurd rfl h) ?_; clear hK K
            refine wpAnyL_done (by kernel_rfl) ?_ _
            have HX9 := Lib.hid (show Bx (w7.setCell ⟨h, 4, none⟩ (.slice p7 (k + 1) c7)) h [.int .i64 (a : Int), .int .i64 (ph : Int), .bool f, .slice pv nv cv, .slice p7 (k + 1) c7] from hX8.setc 4 _)
            have HR9 := Lib.hid (show Bx (w7.setCell ⟨h, 4, none⟩ (.slice p7 (k + 1) c7)) gr [.int .i64 0, .int .i64 0, .bool false, .slice none 0 0, .slice none 0 0] from bx_oth hR8 (by show gr ≠ h; omega) _)
            have HT9 := Lib.hid (hT8.grown (grown_set (s := h) (i := 4) (u := .slice p7 (k + 1) c7)) (fun e => by cases e; omega))
            have HO9 := Lib.hid (show ((w7.setCell ⟨h, 4, none⟩ (.slice p7 (k + 1) c7))).ownsRow (h + 1) 103 2 (.slice p7 (k + 1) c7) (k + 1) (mcs (vs ++ [(x1, x2)])) from by rw [mcs_snoc]; exact own_ne_st hown7 (Nat.lt_succ_self h) _ _)
            have HB9 := Lib.hid (show Below w2.heap.size w2 (w7.setCell ⟨h, 4, none⟩ (.slice p7 (k + 1) c7)) from hB8.setCell (by show w2.heap.size ≤ h; omega) _)
            have HV9 := Lib.hid (own_ne_st hV8 (Nat.lt_succ_self h) 4 (.slice p7 (k + 1) c7))
            have hz9 : h + 1 ≤ (w7.setCell ⟨h, 4, none⟩ (.slice p7 (k + 1) c7)).heap.size := by have := HX9.out.lt; omega
            have HVK2 := Lib.hid (show k + 1 = (vs ++ [(x1, x2)]).length from by rw [List.length_append, ← HVK.out]; rfl)
            clear hS hq2 hqf hX5 hX6 hX7 hX8 hR5 hR6 hR8 hT8 hO5 hO6 hB8 ht5 ht6 hb5 hb6 hg5 hg6 hg7 hown7 hb7 hs7 hnb7 hV5 hV6 hV8
            go_wp2_with fail
            go_roundg m
            case measure => have := HM.out; omega
            case rel => exact ⟨k + 1, vs ++ [(x1, x2)], p7, c7, t2, by congr 1; have := HM.out; omega, HKN.out, HVK2, HT9, HX9, HO9, HB9, HR9, HP2, hz9, HV9, Lib.hid hA8⟩
          · have hgf : (decide (0 < gk) && st.isSome) = false := by simpa using hgo
            rw [hgf]
            have HE := Lib.hid (show prs 199 4398046511104 m5 s6 = (vs, st) from by
              rw [HP.out]
              cases st with
              | none => rw [prs_none, List.append_nil]
              | some left =>
                have : gk = 0 := by simp at hgf; omega
                subst this
                show (vs ++ [], some left) = _
                rw [List.append_nil])
            clear HP hgo hgf
            have HDEC := Lib.hid (show decL ink = (⟨a, ph, f, vv, vs⟩, st) from by unfold decL; simp only [HA.out, HB.out, HC.out, HD.out, HE1.out, HM5.out, HE.out, ← HF.out])
            have HIN := Lib.hid (show SvIn ⟨a, ph, f, vv, vs⟩ from by have h := decL_in ink; rw [HDEC.out] at h; exact h)
            obtain ⟨w11, hw11⟩ : ∃ w11 : World, w11 = wr := ⟨_, rfl⟩
            rw [← hw11] at HT HXS HOV HB2 HXR hsz HVV ⊢
            clear hw11 HE HE1 hgk HAP
            have HMAY := Lib.hid (cmay_ok (.agg #[.int .i64 (a : Int), .int .i64 (ph : Int), .bool f, .slice pv nv cv, .slice p3 k c3]) ⟨a, ph, f, vv, vs⟩ w11 ⟨pv, p3, nv, cv, k, c3, rfl, Sl.of_own HVV.out, Sl.of_own HOV.out⟩ HIN.out)
            dsimp only at HMAY
            obtain ⟨pt, nt, ct, bd, lt, hxt, hlt, hst⟩ := HT.out
            obtain ⟨hntl, _, _⟩ := hlt.lens
            obtain ⟨ht0, ht1, _, _⟩ := hxt.two
            obtain ⟨hy0, hy1, hy2, hy3, hy4⟩ := HXS.out.five
            have HST := Lib.hid hst
            have HNT := Lib.hid hntl
            have HNO := Lib.hid (fun (hc : ¬ (kf = l.length ∧ st = some [] ∧ srt cfM vs = vs)) => (decodeL_none HU.out (fun h => hc ⟨h.2.1, by have := h.2.2.1; rw [HDEC.out] at this; exact this, by have := h.2.2.2; rw [HDEC.out] at this; exact this⟩) : decodeL l = none))
            have HYES := Lib.hid (fun (h1 : kf = l.length) (h2 : st = some []) (h3 : srt cfM vs = vs) => (by have := decodeL_some HU.out h1 (by rw [HDEC.out]; exact h2) (by rw [HDEC.out]; exact h3); rw [HDEC.out] at this; exact this : decodeL l = some ⟨a, ph, f, vv, vs⟩))
            clear hst hxt hlt hntl HT HA HB HC HD HM5 HU HDEC HI HIB
            go_upto_region 14 with fail
            go_cut [102] (fun s102 wx => ∃ bb : Bool, s102 = .bool bb ∧ Hid (bb = true → decodeL l = none) ∧ Hid (bb = false → decodeL l = some ⟨a, ph, f, vv, vs⟩) ∧ Hid (Below w11.heap.size w11 wx))
            case first =>
              cases bd
              · by_cases hn0 : 0 < nt
                · have hd1 : decide ((0 : Int) < (nt : Int)) = true := by simp; omega
                  have hd2 : decide (0 < nt) = true := by simp; omega
                  have HZ := Lib.hid (HNO.out (fun h => by have h5 := h.2.1; rw [HST.out] at h5; have h6 : lt = [] := Option.some.inj h5; have h7 := HNT.out; rw [h6] at h7; simp at h7; omega))
                  go_wp2_with fail
                  go_meet
                  case rel => exact ⟨true, rfl, Lib.hid (fun _ => HZ.out), Lib.hid (fun h => by cases h), Lib.hid (Below.refl _ _)⟩
                · have hd1 : decide ((0 : Int) < (nt : Int)) = false := by simp; omega
                  have hd2 : decide (0 < nt) = false := by simp; omega
                  have e0 : lt = [] := List.eq_nil_of_length_eq_zero (by have := HNT.out; omega)
                  have HS0 := Lib.hid (show st = some [] from by rw [HST.out, e0]; rfl)
                  clear e0
                  by_cases hkn : kf = n
                  · have he1 : ((kf : Int) != (n : Int)) = false := by rw [hkn]; simp
                    have HKL := Lib.hid (hkn.trans HN.out)
                    clear hkn
                    go_wp2_with (go_at_call 40; refine HMAY.out.mono ?_; rintro e w12 ⟨rfl, hb12⟩)
                    go_meet
                    case rel =>
                      by_cases hsr : srt cfM vs = vs
                      · exact ⟨false, by rw [decide_eq_true hsr]; rfl, Lib.hid (fun h => by cases h), Lib.hid (fun _ => HYES.out HKL.out HS0.out hsr), Lib.hid hb12⟩
                      · exact ⟨true, by rw [decide_eq_false hsr]; rfl, Lib.hid (fun _ => HNO.out (fun h => hsr h.2.2)), Lib.hid (fun h => by cases h), Lib.hid hb12⟩
                  · have he1 : ((kf : Int) != (n : Int)) = true := by simp; omega
                    have HZ := Lib.hid (HNO.out (fun h => hkn (h.1.trans HN.out.symm)))
                    go_wp2_with fail
                    go_meet
                    case rel => exact ⟨true, rfl, Lib.hid (fun _ => HZ.out), Lib.hid (fun h => by cases h), Lib.hid (Below.refl _ _)⟩
              · have HZ := Lib.hid (HNO.out (fun h => by have := h.2.1; rw [HST.out] at this; cases this))
                go_wp2_with fail
                go_meet
                case rel => exact ⟨true, rfl, Lib.hid (fun _ => HZ.out), Lib.hid (fun h => by cases h), Lib.hid (Below.refl _ _)⟩
            case rest =>
            obtain ⟨bb, rfl, HBT, HBF, HBX⟩ := hcut
            obtain ⟨w12, hw12⟩ : ∃ w12 : World, w12 = wc := ⟨_, rfl⟩
            rw [← hw12] at HBX ⊢
            clear hw12 hy0 hy1 hy2 hy3 hy4 ht0 ht1
            have hw12 := HW2.out.trans ((HB2.out.trans (HBX.out.mono HB2.out.size)).mono HW2.out.size)
            have HW12 := Lib.hid hw12
            have hgw : w.heap.size ≤ gr := Nat.le_of_eq HGR.out.symm
            obtain ⟨hx0, hx1, hx2, hx3, hx4⟩ := (HXR.out.next HBX.out).five
            obtain ⟨hf0, hf1, hf2, hf3, hf4⟩ := (HXR.out.next HBX.out).fiveF
            obtain ⟨hy0, hy1, hy2, hy3, hy4⟩ := (HXS.out.next HBX.out).five
            have HVZ := Lib.hid (own_later HVV.out HBX.out)
            have HOZ := Lib.hid (own_later HOV.out HBX.out)
            clear hw12
            cases bb
            · have HD := Lib.hid (HBF.out rfl)
              have hne : ¬ h = gr := by omega
              have hne2 : ¬ gr = h := by omega
              go_wp2_with fail
              refine bodyPost_ret (v := .tuple #[.agg #[.int .i64 (a : Int), .int .i64 (ph : Int), .bool f, .slice pv nv cv, .slice p3 k c3], .int .i64 0]) ?_ rfl ⟨_, 0, rfl, ?_, Nat.zero_le _, ?_, ?_⟩
              · rw [results_cell_tmp rfl]
                go_simp
              · exact setc5 HW12.out hgw _ _ _ _ _
              · intro s hs
                rw [HD.out] at hs
                cases hs
                exact ⟨rfl, pv, p3, nv, cv, k, c3, rfl, own_mono (own_set5 HVZ.out (by omega) _ _ _ _ _) (by omega), own_mono (own_set5 HOZ.out (by omega) _ _ _ _ _) (by omega)⟩
              · intro hs
                rw [HD.out] at hs
                cases hs
            · have HD := Lib.hid (HBT.out rfl)
              go_wp2_with fail
              refine bodyPost_ret (v := .tuple #[zsv, .int .i64 3]) ?_ rfl ⟨zsv, 3, rfl, ?_, by omega, ?_, fun _ => ⟨by omega, rfl⟩⟩
              · rw [results_cell_tmp rfl]
                go_simp
                rfl
              · exact setc5 HW12.out hgw _ _ _ _ _
              · intro s hs
                rw [HD.out] at hs
                cases hs
  · have hd1 : ((er : Int) == 0) = false := by simp; omega
    have hd2 : ((er : Int) != 0) = true := by simp; omega
    have hd3 : (er == 0) = false := by simp; omega
    go_wp2_with fail
    refine bodyPost_ret (v := .tuple #[zsv, .int .i64 (er : Int)]) ?_ rfl ⟨zsv, er, rfl, ?_, hue, ?_, fun _ => ⟨he, rfl⟩⟩
    · rw [results_cell_tmp rfl]
      go_simp
      rfl
    · exact setc5 HW2.out (by have := HGR.out; omega) _ _ _ _ _
    · intro s hs
      rw [decodeL_none HU.out (fun h => he h.1)] at hs
      cases hs
theorem decode_any (p : Option Addr) (c n : Nat) (l : List Nat) (w : World) (hl : IsB w (.slice p n c) l) :
    Calls Tryd.prog 20 #[.slice p n c] w fun e w' => ∃ (v : Value) (er : Nat), e = .returned (.tuple #[v, .int .i64 (er : Int)]) ∧ Below w.heap.size w w' ∧ er ≤ 6 ∧ (∀ s, decodeL l = some s → er = 0 ∧ IsSv w' v s) ∧ (decodeL l = none → er ≠ 0 ∧ v = zsv) :=
  (decode_own p c n l w hl).mono fun _ _ ⟨v, er, h1, h2, h3, h4, h5⟩ => ⟨v, er, h1, h2, h3, fun s hs => ⟨(h4 s hs).1, (h4 s hs).2.isSv⟩, h5⟩
end Go.Proofs.YtmdbcknlipahgaaDoor
