/- The walk of pacelinekeep.filled. -/
import Derived.Test.YtcaolnpkpialdaaPush
namespace Go.Proofs.Ytcaolnpkpialdaa
open Go.RowKit Go.Sort Go.Proofs
/-- a queue into which so many pieces were pushed -/
def fillQ (bud : Nat) (l : List (Nat × Nat)) : Qu := l.foldl pushQ ⟨bud, [], []⟩
theorem fillQ_snoc (bud : Nat) (l : List (Nat × Nat)) (m : Nat × Nat) : fillQ bud (l ++ [m]) = pushQ (fillQ bud l) m := by
  unfold fillQ; rw [List.foldl_append]; rfl
theorem pushQ_bud (q : Qu) (m : Nat × Nat) : (pushQ q m).bud = q.bud := by unfold pushQ; split <;> rfl
theorem list_snoc {α : Type} {P : List α → Prop} (h0 : P []) (h1 : ∀ l a, P l → P (l ++ [a])) (l : List α) : P l := by
  rw [← List.reverse_reverse l]
  induction l.reverse with
  | nil => exact h0
  | cons a r ih => rw [List.reverse_cons]; exact h1 _ _ ih
theorem fillQ_ok {bud : Nat} (hb : 1 ≤ bud) (hb2 : bud ≤ 1000) (l : List (Nat × Nat)) : (∀ m ∈ l, okM m) → l.length ≤ 4000 → QuOk (fillQ bud l) ∧ (fillQ bud l).many = l.length ∧ (fillQ bud l).bud = bud ∧ (fillQ bud l).loose.length = l.length % bud ∧ (fillQ bud l).runs.length = l.length / bud := by
  refine list_snoc (P := fun l => (∀ m ∈ l, okM m) → l.length ≤ 4000 → QuOk (fillQ bud l) ∧ (fillQ bud l).many = l.length ∧ (fillQ bud l).bud = bud ∧ (fillQ bud l).loose.length = l.length % bud ∧ (fillQ bud l).runs.length = l.length / bud) ?_ ?_ l
  · intro _ _
    refine ⟨⟨hb, hb2, hb, (fun m hm => by cases hm), (fun r hr => by cases hr), by show 0 + 0 ≤ 5000; omega⟩, rfl, rfl, ?_, ?_⟩
    · show 0 = 0 % bud; rw [Nat.zero_mod]
    · show 0 = 0 / bud; rw [Nat.zero_div]
  · intro l m ih hm hl
    rw [List.length_append] at hl
    simp only [List.length_singleton] at hl
    obtain ⟨h1, h2, h3, h4, h5⟩ := ih (fun x hx => hm x (by simp [hx])) (by omega)
    rw [fillQ_snoc]
    generalize fillQ bud l = q at *
    have hlt := h1.lt
    have hdm := Nat.div_add_mod l.length bud
    have hll : (l ++ [m]).length = l.length + 1 := by simp
    refine ⟨pushQ_ok h1 (hm m (by simp)) (by omega), by rw [pushQ_many, h2, hll], by rw [pushQ_bud]; exact h3, ?_, ?_⟩
    · rw [hll]
      unfold pushQ
      split
      · rename_i he
        have e : l.length + 1 = bud * (l.length / bud + 1) := by rw [Nat.mul_succ]; omega
        show 0 = (l.length + 1) % bud
        rw [e, Nat.mul_mod_right]
      · rename_i he
        have e : l.length + 1 = bud * (l.length / bud) + (l.length % bud + 1) := by omega
        show (q.loose ++ [m]).length = (l.length + 1) % bud
        rw [e, Nat.mul_add_mod, Nat.mod_eq_of_lt (by omega), List.length_append, h4]; rfl
    · rw [hll]
      unfold pushQ
      split
      · rename_i he
        have e : l.length + 1 = bud * (l.length / bud + 1) := by rw [Nat.mul_succ]; omega
        show (q.runs ++ _).length = (l.length + 1) / bud
        rw [e, Nat.mul_div_cancel_left _ (by omega), List.length_append, h5]; rfl
      · rename_i he
        have e : l.length + 1 = bud * (l.length / bud) + (l.length % bud + 1) := by omega
        show q.runs.length = (l.length + 1) / bud
        have h9 : l.length % bud + 1 < bud := by omega
        rw [h5, e, Nat.mul_add_div (by omega), Nat.div_eq_of_lt h9, Nat.add_zero]
theorem results_cell_ttF {fn : Func} {p u v : Tmp} {ty : TypeId} (h : fn.results = #[.cell p ty, .tmp u, .tmp v]) (tmps : Array Value) (P : Program) (w : World) :
    (results fn tmps).run P w = ((asAddr (tmps.getD p undef)).run P w).andThen fun a w₁ => ((loadVar ty a).run P w₁).andThen fun x w₂ => .ok (.tuple #[x, tmps.getD u undef, tmps.getD v undef]) w₂ := by
  simp only [results, h]
  simp [Sem.run_bind, Result.andThen]
set_option maxHeartbeats 8000000 in
set_option maxRecDepth 100000 in
theorem filled_own (bud n c : Nat) (p : Option Addr) (l : List (Nat × Nat)) (w : World) (h : Sl w 2 (.slice p n c) n (mcs l)) (hb : 1 ≤ bud) (hb2 : bud ≤ 1000) (ho : ∀ m ∈ l, okM m) (hn : n ≤ 4000) :
    Calls Try.prog 34 #[.int .i64 (bud : Int), .slice p n c] w fun e w' => ∃ (v : Value) (mo : Nat), e = .returned (.tuple #[v, .int .i64 (mo : Int), .bool true]) ∧ mo < bud ∧ OwnQ w' w.heap.size v (fillQ bud l) ∧ Below w.heap.size w w' := by
  obtain ⟨hln, hnc, hc63⟩ := h.mlen
  have HL := Lib.hid h
  have HLN := Lib.hid hln
  have HO := Lib.hid ho
  have HFO := Lib.hid (fun k => fillQ_ok hb hb2 (l.take k) (fun m hm => ho m (List.mem_of_mem_take hm)) (by have : (l.take k).length ≤ l.length := List.length_take_le' _ _; omega))
  clear h hln ho
  obtain ⟨b1, B1, z1⟩ := boxed0 w [.int .i64 0, .slice none 0 0, .slice none 0 0] 86
  obtain ⟨b2, B2, z2⟩ := boxed0 (w.alloc (.cells #[.int .i64 0, .slice none 0 0, .slice none 0 0] 86)) [.int .i64 (bud : Int), .slice none 0 0, .slice none 0 0] 86
  have X1 := B1.next b2
  have hbw := b1.trans (b2.mono b1.size)
  have e1 : (w.alloc (.cells #[.int .i64 0, .slice none 0 0, .slice none 0 0] 86)).heap.size = w.heap.size + 1 := by simp
  rw [e1] at B2 z2
  clear b1 b2 B1 e1 z1
  go_enter Try.func34, Try.ntmps34
  go_wp2_with fail
  generalize ((w.alloc (.cells #[.int .i64 0, .slice none 0 0, .slice none 0 0] 86)).alloc (.cells #[.int .i64 (bud : Int), .slice none 0 0, .slice none 0 0] 86)) = w1 at *
  obtain ⟨gz, hgz⟩ : ∃ gz, gz = w.heap.size := ⟨_, rfl⟩
  rw [← hgz] at X1 B2 z2 ⊢
  have hgz0 : w.heap.size ≤ gz := by omega
  have hgz1 : w.heap.size ≤ gz + 1 := by omega
  clear hgz
  obtain ⟨gq, hgq⟩ : ∃ gq, gq = gz + 1 := ⟨_, rfl⟩
  have hne : gz ≠ gq := by omega
  have hgzq : gz < gq + 1 := by omega
  rw [← hgq] at B2 hgz1 ⊢
  clear hgq z2
  go_loopg [8, 9] n (fun gk v8 v9 wr => ∃ (k mo : Nat) (p1 : Option Addr) (c1 : Nat) (p2 : Option Addr) (c2 nl nr : Nat), v9 = .int .i64 (k : Int) ∧ k + gk = n ∧ v8 = .int .i64 (mo : Int) ∧ mo < bud ∧ Bx wr gz [.int .i64 0, .slice none 0 0, .slice none 0 0] ∧ Bx wr gq [.int .i64 (bud : Int), .slice p1 nl c1, .slice p2 nr c2] ∧ Hid (OwnQ wr (gq + 1) (.agg #[.int .i64 (bud : Int), .slice p1 nl c1, .slice p2 nr c2]) (fillQ bud (l.take k))) ∧ Below w.heap.size w wr)
  case atStart => exact ⟨0, 0, none, 0, none, 0, 0, 0, rfl, by omega, rfl, by omega, X1, B2, Lib.hid ⟨none, 0, none, 0, [], rfl, World.ownsRow_nil _ _ _ _, OwnRR.nil _ _⟩, hbw⟩
  case round =>
    clear X1 B2 hbw
    obtain ⟨k, mo, p1, c1, p2, c2, nl, nr, rfl, hgk, rfl, hmo, XZ, XQ, HQ, hb1⟩ := hrel
    have HGK := Lib.hid hgk
    have hk : k ≤ n := by omega
    clear hgk
    have HXZ := Lib.hid XZ
    have HXQ := Lib.hid XQ
    obtain ⟨hz0, hz1, hz2, _, _, _⟩ := XZ.three
    obtain ⟨hq0, hq1, hq2, _, _, _⟩ := XQ.three
    have hzl := XZ.lt
    have hql := XQ.lt
    clear XZ XQ
    by_cases hlt : k < n
    · have hkl : k < l.length := by have := HLN.out; omega
      obtain ⟨b3, off3, rfl, hs0, hs1⟩ := (HL.out.later hb1).mail hkl
      have hok := HO.out _ (List.getElem_mem hkl)
      have HTK := Lib.hid (show fillQ bud (l.take (k + 1)) = pushQ (fillQ bud (l.take k)) l[k] by rw [List.take_succ_eq_append_getElem hkl, fillQ_snoc])
      obtain ⟨f1, f2, f3, f4, f5⟩ := HFO.out k
      obtain ⟨g1, g2, g3, g4, g5⟩ := HFO.out (k + 1)
      have hlk : (l.take k).length = k := by rw [List.length_take]; omega
      generalize l[k] = x at hs0 hs1 hok HTK
      obtain ⟨x1, x2⟩ := x
      dsimp only at hs0 hs1
      have HPU := Lib.hid (fun (W : World) (hW : Below wr.heap.size wr W) => push_ok _ (fillQ bud (l.take k)) x1 x2 W (HQ.out.isQ.later hW) f1 hok (by rw [f2, hlk]; omega))
      rw [← HTK.out] at HPU
      have hgb : (fillQ bud (l.take (k + 1))).loose.length < bud := by have := g1.lt; rw [g3] at this; exact this
      generalize hqe : fillQ bud (l.take (k + 1)) = q' at *
      have HQE := Lib.hid hqe
      clear hqe
      have hbb : b3 < wr.heap.size := World.block_lt_of_cell? wr _ hs0
      have hk0 : (0 : Int) ≤ (k : Int) := by omega
      have hkn : (k : Int) < (n : Int) := by omega
      have hd1 : decide ((k : Int) < (n : Int)) = true := by simp; omega
      have hd2 : decide (k < n) = true := by simp; omega
      have HG3 := Lib.hid g3
      have HKP := Lib.hid (fun (W : World) (hW : Below wr.heap.size wr W) => (show W.cell? ⟨gq, 0, none⟩ = some (.int .i64 (bud : Int)) ∧ W.cell? ⟨gq, 1, none⟩ = some (.slice p1 nl c1) ∧ W.cell? ⟨gq, 2, none⟩ = some (.slice p2 nr c2) ∧ W.cell? ⟨b3, off3 + k * 2, none⟩ = some (.int .i64 (x1 : Int)) ∧ W.cell? ⟨b3, off3 + k * 2 + 1, none⟩ = some (.int .i64 (x2 : Int)) from ⟨(HXQ.out.next hW).three.1, (HXQ.out.next hW).three.2.1, (HXQ.out.next hW).three.2.2.1, (hW.cell (p := ⟨b3, off3 + k * 2, none⟩) hbb).trans hs0, (hW.cell (p := ⟨b3, off3 + k * 2 + 1, none⟩) hbb).trans hs1⟩))
      clear f1 f2 f3 f4 f5 g1 g2 g3 g4 g5 hok hlk hlt HTK hz0 hz1 hz2
      go_upto_region 6 with fail
      have hn0 : ¬ gq = wr.heap.size := by omega
      have hn1 : ¬ wr.heap.size = gq := by omega
      have hn2 : ¬ b3 = wr.heap.size := by omega
      have hn3 : ¬ wr.heap.size = b3 := by omega
      go_cut [10, 11] (fun s10 s11 wx => ∃ (g : Nat) (p3 : Option Addr) (c3 : Nat) (p4 : Option Addr) (c4 ml mr : Nat), s10 = .pointer (some ⟨g, 0, none⟩) ∧ s11 = .int .i64 0 ∧ Bx wx g [.int .i64 (bud : Int), .slice p3 ml c3, .slice p4 mr c4] ∧ wr.heap.size ≤ g ∧ ml = q'.loose.length ∧ Hid (OwnQ wx wr.heap.size (.agg #[.int .i64 (bud : Int), .slice p3 ml c3, .slice p4 mr c4]) q') ∧ Below wr.heap.size wr wx)
      case first =>
        go_region_held3 (fun w' => w'.cell? ⟨gq, 0, none⟩ = some (.int .i64 (bud : Int)) ∧ w'.cell? ⟨gq, 1, none⟩ = some (.slice p1 nl c1) ∧ w'.cell? ⟨gq, 2, none⟩ = some (.slice p2 nr c2) ∧ w'.cell? ⟨b3, off3 + k * 2, none⟩ = some (.int .i64 (x1 : Int)) ∧ w'.cell? ⟨b3, off3 + k * 2 + 1, none⟩ = some (.int .i64 (x2 : Int)))
          (first | (exact ⟨hu0, hu1, hu2, hu3, hu4⟩) | (exact ⟨hq0, hq1, hq2, hs0, hs1⟩) | go_keep)
          (first
            | (go_at_call 64; refine (HPU.out (wr.drew) (Below.refl _ _).drew).mono ?_; rintro e w5 ⟨v5, rfl, hq5, hb5⟩; have hc5 : Below wr.heap.size wr w5 := (Below.refl _ wr).drew.trans hb5; have hq5' := hq5; obtain ⟨p3, c3, p4, c4, vs5, rfl, hq5l, hq5r⟩ := hq5; rw [HG3.out]; obtain ⟨hu0, hu1, hu2, hu3, hu4⟩ := HKP.out w5 hc5; have hz5 := hc5.size; have hn4 : ¬ gq = w5.heap.size := (by omega); have hn5 : ¬ w5.heap.size = gq := (by omega); have hn6 : ¬ b3 = w5.heap.size := (by omega); have hn7 : ¬ w5.heap.size = b3 := (by omega))
            | (go_at_call 64; refine (HPU.out (wr.alloc (.cells #[.int .i64 0, .slice none 0 0, .slice none 0 0] 86)).drew (alloc_below wr _).drew).mono ?_; rintro e w5 ⟨v5, rfl, hq5, hb5⟩; have hc5 : Below wr.heap.size wr w5 := below_next (alloc_below wr _).drew (Nat.le_refl _) hb5; have hbz := Bx.next (show Bx (wr.alloc (.cells #[.int .i64 0, .slice none 0 0, .slice none 0 0] 86)).drew wr.heap.size [.int .i64 0, .slice none 0 0, .slice none 0 0] from bx_new wr _ _) hb5; obtain ⟨ha0, ha1, ha2, ha3, ha4, ha5⟩ := hbz.three; have hq5' := hq5; obtain ⟨p3, c3, p4, c4, vs5, rfl, hq5l, hq5r⟩ := hq5; rw [HG3.out]; obtain ⟨hu0, hu1, hu2, hu3, hu4⟩ := HKP.out w5 hc5)
            | fail)
        all_goals go_wp2_with fail
        all_goals go_meet
        case rel =>
          have hal := alloc_below w5 (.cells #[.int .i64 (bud : Int), .slice p3 q'.loose.length c3, .slice p4 q'.runs.length c4] 86)
          exact ⟨_, p3, c3, p4, c4, _, _, rfl, rfl, bx_new w5 _ _, hc5.size, rfl, Lib.hid (by rw [HG3.out] at hq5'; exact (hq5'.later hal).mono (Nat.le_refl _)), hc5.alloc hc5.size _⟩
        case rel =>
          have hg1 := grown_trans (grown_set (w := w5) (s := wr.heap.size) (i := 0) (u := .int .i64 (bud : Int))) (grown_trans (grown_set (s := wr.heap.size) (i := 1) (u := .slice p3 q'.loose.length c3)) (grown_set (s := wr.heap.size) (i := 2) (u := .slice p4 q'.runs.length c4)))
          exact ⟨_, p3, c3, p4, c4, _, _, rfl, rfl, ((hbz.setc 0 _).setc 1 _).setc 2 _, Nat.le_refl _, rfl, Lib.hid (by rw [HG3.out] at hq5'; exact (hq5'.grown hg1 (fun k hk => by cases hk; simp)).mono (by simp)), ((hc5.setCell (Nat.le_refl _) _).setCell (Nat.le_refl _) _).setCell (Nat.le_refl _) _⟩
      case rest =>
      obtain ⟨g, p3, c3, p4, c4, ml, mr, rfl, rfl, XG, hgw, hml, HQ5, hb5⟩ := hcut
      obtain ⟨w5, rfl⟩ : ∃ w5 : World, w5 = wc := ⟨_, rfl⟩
      rw [← hml] at hgb
      have HML := Lib.hid hml
      have XQ5 := HXQ.out.next hb5
      have HXQ5 := Lib.hid XQ5
      have HXZ5 := Lib.hid (HXZ.out.next hb5)
      obtain ⟨hq0, hq1, hq2, hqf0, hqf1, hqf2⟩ := XQ5.three
      obtain ⟨ha0, ha1, ha2, _, _, _⟩ := XG.three
      have hnq : ¬ gq = g := by omega
      have hnq' : ¬ g = gq := by omega
      have hsq : ∀ i u, Hid ((w5.setCell ⟨gq, i, none⟩ u).heap.size = w5.heap.size) := fun i u => Lib.hid (by simp)
      clear hsq hml hs0 hs1 XQ5 HKP HPU hn0 hn1 hn2 hn3
      have hgq0 := hgz1
      have hb15 := hb1.trans (hb5.mono hb1.size)
      have hg1 := grown_trans (grown_set (w := w5) (s := gq) (i := 0) (u := .int .i64 (bud : Int))) (grown_trans (grown_set (s := gq) (i := 1) (u := .slice p3 ml c3)) (grown_set (s := gq) (i := 2) (u := .slice p4 mr c4)))
      have HB6 := Lib.hid (show Below w.heap.size w (((w5.setCell ⟨gq, 0, none⟩ (.int .i64 (bud : Int))).setCell ⟨gq, 1, none⟩ (.slice p3 ml c3)).setCell ⟨gq, 2, none⟩ (.slice p4 mr c4)) from ((hb15.setCell hgz1 _).setCell hgz1 _).setCell hgz1 _)
      have HQ6 := Lib.hid ((HQ5.out.grown hg1 (fun k hk => by cases hk; exact hql)).mono (show gq + 1 ≤ _ from hql))
      rw [← HQE.out] at HQ6
      have HXQ6 := Lib.hid (show Bx (((w5.setCell ⟨gq, 0, none⟩ (.int .i64 (bud : Int))).setCell ⟨gq, 1, none⟩ (.slice p3 ml c3)).setCell ⟨gq, 2, none⟩ (.slice p4 mr c4)) gq [.int .i64 (bud : Int), .slice p3 ml c3, .slice p4 mr c4] from ((HXQ5.out.setc 0 _).setc 1 _).setc 2 _)
      have HXZ6 := Lib.hid (bx_oth (bx_oth (bx_oth HXZ5.out (a := ⟨gq, 0, none⟩) hne (.int .i64 (bud : Int))) (a := ⟨gq, 1, none⟩) hne (.slice p3 ml c3)) (a := ⟨gq, 2, none⟩) hne (.slice p4 mr c4))
      clear hg1 hb15 hb5 HQ5 HXQ5 HXZ5
      have hbe : ((bud : Int) == (bud : Int)) = true := by simp
      by_cases hmx : mo < ml
      · have hd5 : decide ((mo : Int) < (ml : Int)) = true := by simp; omega
        have hd6 : decide (mo < ml) = true := by simp; omega
        have hd7 : max (mo : Int) (ml : Int) = (ml : Int) := by omega
        clear hmx
        go_wp2_with fail
        go_roundg (n - (k + 1))
        case measure => have := HGK.out; omega
        case rel => exact ⟨k + 1, ml, p3, c3, p4, c4, ml, mr, by go_num, by omega, rfl, hgb, HXZ6.out, HXQ6.out, HQ6, HB6.out⟩
      · have hd5 : decide ((mo : Int) < (ml : Int)) = false := by simp; omega
        have hd6 : decide (mo < ml) = false := by simp; omega
        have hd7 : max (mo : Int) (ml : Int) = (mo : Int) := by omega
        clear hmx
        go_wp2_with fail
        go_roundg (n - (k + 1))
        case measure => have := HGK.out; omega
        case rel => exact ⟨k + 1, mo, p3, c3, p4, c4, ml, mr, by go_num, by omega, rfl, hmo, HXZ6.out, HXQ6.out, HQ6, HB6.out⟩
    · obtain rfl : n = k := by omega
      have hd1 : decide ((n : Int) < (n : Int)) = false := by simp
      have hd2 : decide (n < n) = false := by simp
      have HQn := Lib.hid (show OwnQ wr (gq + 1) (.agg #[.int .i64 (bud : Int), .slice p1 nl c1, .slice p2 nr c2]) (fillQ bud l) by have := HQ.out; rw [List.take_of_length_le (by have := HLN.out; omega)] at this; exact this)
      obtain ⟨hz0, hz1, hz2, hzf0, hzf1, hzf2⟩ := HXZ.out.three
      clear HQ hlt
      go_wp2_with fail
      refine bodyPost_ret (v := .tuple #[.agg #[.int .i64 (bud : Int), .slice p1 nl c1, .slice p2 nr c2], .int .i64 (mo : Int), .bool true]) ?_ rfl ⟨_, mo, rfl, hmo, ?_, ?_⟩
      · rw [results_cell_ttF rfl]
        go_simp
      · have hg1 := grown_trans (grown_set (w := wr) (s := gz) (i := 0) (u := .int .i64 (bud : Int))) (grown_trans (grown_set (s := gz) (i := 1) (u := .slice p1 nl c1)) (grown_set (s := gz) (i := 2) (u := .slice p2 nr c2)))
        exact (HQn.out.grown hg1 (fun k hk => by cases hk; omega)).mono (Nat.le_succ_of_le hgz1)
      · iterate 3 (refine Below.setCell ?_ (by show w.heap.size ≤ gz; exact hgz0) _)
        exact hb1
theorem filled_ok (bud n c : Nat) (p : Option Addr) (l : List (Nat × Nat)) (w : World) (h : Sl w 2 (.slice p n c) n (mcs l)) (hb : 1 ≤ bud) (hb2 : bud ≤ 1000) (ho : ∀ m ∈ l, okM m) (hn : n ≤ 4000) :
    Calls Try.prog 34 #[.int .i64 (bud : Int), .slice p n c] w fun e w' => ∃ (v : Value) (mo : Nat), e = .returned (.tuple #[v, .int .i64 (mo : Int), .bool true]) ∧ mo < bud ∧ IsQ w' v (fillQ bud l) ∧ Below w.heap.size w w' :=
  (filled_own bud n c p l w h hb hb2 ho hn).mono fun _ _ ⟨v, mo, h1, h2, h3, h4⟩ => ⟨v, mo, h1, h2, h3.isQ, h4⟩
end Go.Proofs.Ytcaolnpkpialdaa
