/- The walk of queue.Push, at a queue that may be. -/
import Derived.Test.YtcaolnpkpialdaaQOpen
import Derived.Test.YtcaolnpkpialdaaCloneB
import Derived.Test.YtcaolnpkpialdaaHeldL
import Derived.Deep.DeepCutAuto
namespace Go.Proofs.Ytcaolnpkpialdaa
open Go.RowKit Go.Sort Go.Proofs
/-- a queue behind one more piece -/
def pushQ (q : Qu) (m : Nat × Nat) : Qu :=
  if q.loose.length + 1 = q.bud then ⟨q.bud, [], q.runs ++ [srt cfM (q.loose ++ [m])]⟩ else ⟨q.bud, q.loose ++ [m], q.runs⟩
theorem pushQ_many (q : Qu) (m : Nat × Nat) : (pushQ q m).many = q.many + 1 := by
  unfold pushQ Qu.many
  split
  · simp [srt_len]; omega
  · simp; omega
theorem pushQ_ok {q : Qu} {m : Nat × Nat} (h : QuOk q) (hm : okM m) (h5 : q.many < 5000) : QuOk (pushQ q m) := by
  have hmany := pushQ_many q m
  obtain ⟨b1, b2, lt, ok, runs, most⟩ := h
  have hok : ∀ x ∈ q.loose ++ [m], okM x := fun x hx => by
    rcases List.mem_append.1 hx with hx | hx
    · exact ok x hx
    · rw [List.mem_singleton.1 hx]; exact hm
  unfold pushQ at *
  split
  · rename_i he
    rw [if_pos he] at hmany
    refine ⟨b1, b2, by show 0 < q.bud; omega, (fun x hx => by cases hx), fun r hr => ?_, by omega⟩
    rcases List.mem_append.1 hr with hr | hr
    · exact runs r hr
    · rw [List.mem_singleton.1 hr]
      exact srt_run (by simp) (by simp; omega) hok
  · rename_i he
    rw [if_neg he] at hmany
    exact ⟨b1, b2, by show (q.loose ++ [m]).length < q.bud; simp; omega, hok, runs, by omega⟩
/-- a queue of the call's own -/
def OwnQ (w : World) (B : Nat) (v : Value) (q : Qu) : Prop :=
  ∃ (p : Option Addr) (c : Nat) (p' : Option Addr) (c' : Nat) (vs : List Value), v = .agg #[.int .i64 (q.bud : Int), .slice p q.loose.length c, .slice p' q.runs.length c'] ∧ w.ownsRow B 109 2 (.slice p q.loose.length c) q.loose.length (mcs q.loose) ∧ OwnRR (fun r => bys (packL r)) 56 5 1 (fun r => (packL r).length) w B (.slice p' q.runs.length c') q.runs.length q.runs vs
theorem OwnQ.isQ {w : World} {B : Nat} {v : Value} {q : Qu} (h : OwnQ w B v q) : IsQ w v q := by
  obtain ⟨p, c, p', c', vs, rfl, h1, h2⟩ := h
  exact ⟨p, c, p', c', rfl, Sl.of_own h1, h2.isRR⟩
theorem OwnQ.later {w w' : World} {B : Nat} {v : Value} {q : Qu} (h : OwnQ w B v q) (hb : Below w.heap.size w w') : OwnQ w' B v q := by
  obtain ⟨p, c, p', c', vs, rfl, h1, h2⟩ := h
  exact ⟨p, c, p', c', vs, rfl, own_later h1 hb, h2.later hb⟩
theorem OwnQ.grown {w w' : World} {B : Nat} {v : Value} {q : Qu} {o : Option Nat} (h : OwnQ w B v q) (hg : w.grownBy w' o) (ho : ∀ k, o = some k → k < B) : OwnQ w' B v q := by
  obtain ⟨p, c, p', c', vs, rfl, h1, h2⟩ := h
  exact ⟨p, c, p', c', vs, rfl, own_grown h1 hg (fun k hk e => by have h3 := ho k e; have h4 := (h1.lt k hk).1; omega), h2.grown hg ho⟩
theorem OwnQ.mono {w : World} {B B' : Nat} {v : Value} {q : Qu} (h : OwnQ w B v q) (hB : B' ≤ B) : OwnQ w B' v q := by
  obtain ⟨p, c, p', c', vs, rfl, h1, h2⟩ := h
  exact ⟨p, c, p', c', vs, rfl, own_mono h1 hB, h2.mono hB⟩
/-- a box ahead of an append to another row -/
theorem box_app {W w6 : World} {g : Nat} {cs : List Value} {v v6 : Value} (hb : Bx W g cs) (hg : W.grownBy w6 v.ownBlock) (hbk : v6.ownBlock = v.ownBlock ∨ v6.ownBlock = some W.heap.size) (hnv : v.ownBlock ≠ some g) : Bx w6 g cs ∧ v6.ownBlock ≠ some g := by
  refine ⟨hb.grown hg hnv, fun e => ?_⟩
  rcases hbk with h | h
  · exact hnv (h.symm.trans e)
  · have hl := hb.lt
    rw [h] at e
    injection e with e
    omega
set_option maxHeartbeats 8000000 in
set_option maxRecDepth 100000 in
theorem push_ok (v : Value) (q : Qu) (x1 x2 : Nat) (w : World) (hv : IsQ w v q) (hq : QuOk q) (hm : okM (x1, x2)) (h5 : q.many < 5000) :
    Calls Try.prog 64 #[v, .agg #[.int .i64 (x1 : Int), .int .i64 (x2 : Int)]] w fun e w' => ∃ v', e = .returned (.tuple #[v', .int .i64 0]) ∧ OwnQ w' w.heap.size v' (pushQ q (x1, x2)) ∧ Below w.heap.size w w' := by
  have HOP := Lib.hid (fun (W : World) (hW : Below w.heap.size w W) => qopen_ok v q W (hv.later hW) hq)
  have HQM := Lib.hid (fun W => qmail_ok x1 x2 W hm)
  have HXM := Lib.hid hm
  obtain ⟨p, c, pr, cr, rfl, hl, hr⟩ := hv
  have hm5 : ((q.many : Nat) : Int) ≠ 5000 := by omega
  obtain ⟨my, hmy⟩ : ∃ my, my = q.many := ⟨_, rfl⟩
  rw [← hmy] at HOP h5
  clear hm5 hmy
  obtain ⟨bud, loose, runs⟩ := q
  obtain ⟨hb1, hb2, hlt, hok, hruns, hmost⟩ := hq
  dsimp only at hb1 hb2 hlt hok hruns hl hr HOP
  obtain ⟨-, hlc, hlc63⟩ := hl.mlen
  obtain ⟨-, hrc, hrc63⟩ := hr.lens
  have HL := Lib.hid hl
  have HR := Lib.hid hr
  have HRO := Lib.hid hruns
  have HOK := Lib.hid hok
  obtain ⟨n, hn⟩ : ∃ n, n = loose.length := ⟨_, rfl⟩
  have HN := Lib.hid hn
  rw [← hn] at HOP HL hlt hlc ⊢
  obtain ⟨m, hmm⟩ : ∃ m, m = runs.length := ⟨_, rfl⟩
  have HM := Lib.hid hmm
  rw [← hmm] at HOP HR hrc ⊢
  have hr5000 : m ≤ 5000 := by
    have h1 := runs_le runs hruns
    unfold Qu.many at hmost; dsimp only at hmost; omega
  clear hl hr hm hok hruns hmost hn hmm
  obtain ⟨b1, B1, z1⟩ := boxed0 w [.int .i64 (bud : Int), .slice p n c, .slice pr m cr] 86
  obtain ⟨b2, B2, z2⟩ := boxed0 (w.alloc (.cells #[.int .i64 (bud : Int), .slice p n c, .slice pr m cr] 86)) [.int .i64 (x1 : Int), .int .i64 (x2 : Int)] 109
  obtain ⟨b3, B3, z3⟩ := boxed0 ((w.alloc (.cells #[.int .i64 (bud : Int), .slice p n c, .slice pr m cr] 86)).alloc (.cells #[.int .i64 (x1 : Int), .int .i64 (x2 : Int)] 109)) [.int .i64 0, .slice none 0 0, .slice none 0 0] 86
  have X1 := (B1.next b2).next b3
  have X2 := B2.next b3
  have e1 : (w.alloc (.cells #[.int .i64 (bud : Int), .slice p n c, .slice pr m cr] 86)).heap.size = w.heap.size + 1 := by simp
  have e2 : ((w.alloc (.cells #[.int .i64 (bud : Int), .slice p n c, .slice pr m cr] 86)).alloc (.cells #[.int .i64 (x1 : Int), .int .i64 (x2 : Int)] 109)).heap.size = w.heap.size + 1 + 1 := by simp
  have hbw := b1.trans ((b2.trans (b3.mono b2.size)).mono b1.size)
  rw [e1] at X2 z2
  rw [e2] at B3 z3
  obtain ⟨hx0, hx1, hx2, _, _, _⟩ := X1.three
  have HX1 := Lib.hid X1
  have HX2 := Lib.hid X2
  have HX3 := Lib.hid B3
  clear b1 b2 b3 B1 B2 B3 X1 X2 e1 e2 z1 z2
  go_enter Try.func64, Try.ntmps64
  go_wp2_with fail
  generalize (((w.alloc (.cells #[.int .i64 (bud : Int), .slice p n c, .slice pr m cr] 86)).alloc (.cells #[.int .i64 (x1 : Int), .int .i64 (x2 : Int)] 109)).alloc (.cells #[.int .i64 0, .slice none 0 0, .slice none 0 0] 86)) = w1 at *
  obtain ⟨gx, hgx⟩ : ∃ gx, gx = w.heap.size := ⟨_, rfl⟩
  rw [← hgx] at HX1 HX2 HX3 ⊢
  have hgz0 : w.heap.size ≤ gx + 1 + 1 := by omega
  clear hgx
  generalize gx + 1 = gm at *
  generalize gm + 1 = gz at *
  refine (HOP.out _ hbw).mono ?_; rintro e w2 ⟨po, co, vo, rfl, -, hb2'⟩
  have hbw2 := hbw.trans (hb2'.mono hbw.size)
  have HY1 := Lib.hid (HX1.out.next hb2')
  have HY2 := Lib.hid (HX2.out.next hb2')
  have HY3 := Lib.hid (HX3.out.next hb2')
  obtain ⟨hm0, hm1, _, _⟩ := HY2.out.two
  have hmy : ((my : Int) == 5000) = false := by simp; omega
  have hmy' : (my == 5000) = false := by simp; omega
  clear HX1 HX2 HX3 hx0 hx1 hx2 hb2' HOP hbw
  go_wp2_with fail
  refine (HQM.out _).mono ?_; rintro e w3 ⟨rfl, hb3⟩
  have hbw3 := hbw2.trans (hb3.mono hbw2.size)
  have HX1 := Lib.hid (HY1.out.next hb3)
  have HX2 := Lib.hid (HY2.out.next hb3)
  have HX3 := Lib.hid (HY3.out.next hb3)
  obtain ⟨hx0, hx1, hx2, _, _, _⟩ := HX1.out.three
  obtain ⟨hm0, hm1, _, _⟩ := HX2.out.two
  have HCL := Lib.hid (fun (W : World) (hW : Below w3.heap.size w3 W) => cloneM_ok n c p (mcs loose) W (HL.out.later (hbw3.trans (hW.mono hbw3.size))) (mcs_one loose) (by omega))
  have hgl1 := HX1.out.lt
  have hgl2 := HX2.out.lt
  have hgl3 := HX3.out.lt
  clear HY1 HY2 HY3 hbw2 hb3
  go_upto_region 8 with fail
  clear hmy hmy'
  go_cut [9] (fun s9 wx => ∃ (g9 : Nat) (p9 : Option Addr) (c9 : Nat), s9 = .pointer (some ⟨g9, 0, none⟩) ∧ w3.heap.size ≤ g9 ∧ Bx wx g9 [.int .i64 (bud : Int), .slice p9 (n + 1) c9, .slice none 0 0] ∧ Hid (wx.ownsRow w3.heap.size 109 2 (.slice p9 (n + 1) c9) (n + 1) (mcs (loose ++ [(x1, x2)]))) ∧ (Value.slice p9 (n + 1) c9).ownBlock ≠ some g9 ∧ Below w3.heap.size w3 wx)
  case first =>
    have hk0 := hx0
    have hk1 := hx1
    have hk2 := hm0
    have hk3 := hm1
    have hna0 : ¬ gx = w3.heap.size := (by omega)
    have hna1 : ¬ w3.heap.size = gx := (by omega)
    have hna2 : ¬ gm = w3.heap.size := (by omega)
    have hna3 : ¬ w3.heap.size = gm := (by omega)
    have hna4 : ¬ gx = w3.heap.size + 1 := (by omega)
    have hna5 : ¬ w3.heap.size + 1 = gx := (by omega)
    have hna6 : ¬ gm = w3.heap.size + 1 := (by omega)
    have hna7 : ¬ w3.heap.size + 1 = gm := (by omega)
    have HKP := Lib.hid (fun (W : World) (hW : Below w3.heap.size w3 W) => (show W.cell? ⟨gx, 0, none⟩ = some (Value.int .i64 (bud : Int)) ∧ W.cell? ⟨gx, 1, none⟩ = some (Value.slice p n c) ∧ W.cell? ⟨gm, 0, none⟩ = some (Value.int .i64 (x1 : Int)) ∧ W.cell? ⟨gm, 1, none⟩ = some (Value.int .i64 (x2 : Int)) from ⟨(HX1.out.next hW).three.1, (HX1.out.next hW).three.2.1, (HX2.out.next hW).two.1, (HX2.out.next hW).two.2.1⟩))
    go_region_held3 (fun w' => w'.cell? ⟨gx, 0, none⟩ = some (Value.int .i64 (bud : Int)) ∧ w'.cell? ⟨gx, 1, none⟩ = some (Value.slice p n c) ∧ w'.cell? ⟨gm, 0, none⟩ = some (Value.int .i64 (x1 : Int)) ∧ w'.cell? ⟨gm, 1, none⟩ = some (Value.int .i64 (x2 : Int)))
      (first | (exact ⟨hk0, hk1, hk2, hk3⟩) | go_keep)
      (first
        | (go_at_call 69; refine (HCL.out (w3).drew (Below.refl _ w3).drew).mono ?_; rintro e w5 ⟨p5, c5, rfl, ho5', hb5⟩; have hcW : Below w3.heap.size w3 (w3).drew := (Below.refl _ w3).drew; have hc5 : Below w3.heap.size w3 w5 := hcW.trans (hb5.mono hcW.size); have ho5 := own_mono (base' := w3.heap.size) ho5' hcW.size; have hz5 := hc5.size; have hnb0 : ¬ gx = w5.heap.size := (by omega); have hnb1 : ¬ w5.heap.size = gx := (by omega); have hnb2 : ¬ gm = w5.heap.size := (by omega); have hnb3 : ¬ w5.heap.size = gm := (by omega); have hnb4 : ¬ gx = w5.heap.size + 1 := (by omega); have hnb5 : ¬ w5.heap.size + 1 = gx := (by omega); have hnb6 : ¬ gm = w5.heap.size + 1 := (by omega); have hnb7 : ¬ w5.heap.size + 1 = gm := (by omega); obtain ⟨hk0, hk1, hk2, hk3⟩ := HKP.out w5 hc5)
        | (go_at_call 69; refine (HCL.out (w3.alloc (.cells #[.int .i64 (x1 : Int), .int .i64 (x2 : Int)] 109)).drew (alloc_below w3 (.cells #[.int .i64 (x1 : Int), .int .i64 (x2 : Int)] 109)).drew).mono ?_; rintro e w5 ⟨p5, c5, rfl, ho5', hb5⟩; have hcW : Below w3.heap.size w3 (w3.alloc (.cells #[.int .i64 (x1 : Int), .int .i64 (x2 : Int)] 109)).drew := (alloc_below w3 (.cells #[.int .i64 (x1 : Int), .int .i64 (x2 : Int)] 109)).drew; have hc5 : Below w3.heap.size w3 w5 := hcW.trans (hb5.mono hcW.size); have ho5 := own_mono (base' := w3.heap.size) ho5' hcW.size; have hz5 := hc5.size; have hsl := Sl.later (show Sl (w3.alloc (.cells #[.int .i64 (x1 : Int), .int .i64 (x2 : Int)] 109)).drew 2 _ 1 [.int .i64 (x1 : Int), .int .i64 (x2 : Int)] from sl_new w3 [Value.int .i64 (x1 : Int), Value.int .i64 (x2 : Int)] 109) hb5; have hnb0 : ¬ gx = w5.heap.size := (by omega); have hnb1 : ¬ w5.heap.size = gx := (by omega); have hnb2 : ¬ gm = w5.heap.size := (by omega); have hnb3 : ¬ w5.heap.size = gm := (by omega); have hnb4 : ¬ gx = w5.heap.size + 1 := (by omega); have hnb5 : ¬ w5.heap.size + 1 = gx := (by omega); have hnb6 : ¬ gm = w5.heap.size + 1 := (by omega); have hnb7 : ¬ w5.heap.size + 1 = gm := (by omega); obtain ⟨hk0, hk1, hk2, hk3⟩ := HKP.out w5 hc5)
        | (go_at_call 69; refine (HCL.out (w3.alloc (.cells #[.int .i64 0, .slice none 0 0, .slice none 0 0] 86)).drew (alloc_below w3 (.cells #[.int .i64 0, .slice none 0 0, .slice none 0 0] 86)).drew).mono ?_; rintro e w5 ⟨p5, c5, rfl, ho5', hb5⟩; have hcW : Below w3.heap.size w3 (w3.alloc (.cells #[.int .i64 0, .slice none 0 0, .slice none 0 0] 86)).drew := (alloc_below w3 (.cells #[.int .i64 0, .slice none 0 0, .slice none 0 0] 86)).drew; have hc5 : Below w3.heap.size w3 w5 := hcW.trans (hb5.mono hcW.size); have ho5 := own_mono (base' := w3.heap.size) ho5' hcW.size; have hz5 := hc5.size; have hbz := Bx.next (show Bx (w3.alloc (.cells #[.int .i64 0, .slice none 0 0, .slice none 0 0] 86)).drew w3.heap.size [.int .i64 0, .slice none 0 0, .slice none 0 0] from bx_new w3 _ _) hb5; have hbn := fun k (e : (Value.slice p5 n c5).ownBlock = some k) => (ho5'.lt k e).1; obtain ⟨hq0, hq1, hq2, hq3, hq4, hq5⟩ := hbz.three; have hnb0 : ¬ gx = w5.heap.size := (by omega); have hnb1 : ¬ w5.heap.size = gx := (by omega); have hnb2 : ¬ gm = w5.heap.size := (by omega); have hnb3 : ¬ w5.heap.size = gm := (by omega); have hnb4 : ¬ gx = w5.heap.size + 1 := (by omega); have hnb5 : ¬ w5.heap.size + 1 = gx := (by omega); have hnb6 : ¬ gm = w5.heap.size + 1 := (by omega); have hnb7 : ¬ w5.heap.size + 1 = gm := (by omega); obtain ⟨hk0, hk1, hk2, hk3⟩ := HKP.out w5 hc5)
        | (go_at_call 69; refine (HCL.out ((w3.alloc (.cells #[.int .i64 (x1 : Int), .int .i64 (x2 : Int)] 109)).alloc (.cells #[.int .i64 0, .slice none 0 0, .slice none 0 0] 86)).drew ((alloc_below w3 (.cells #[.int .i64 (x1 : Int), .int .i64 (x2 : Int)] 109)).trans ((alloc_below (w3.alloc (.cells #[.int .i64 (x1 : Int), .int .i64 (x2 : Int)] 109)) (.cells #[.int .i64 0, .slice none 0 0, .slice none 0 0] 86)).mono (by simp))).drew).mono ?_; rintro e w5 ⟨p5, c5, rfl, ho5', hb5⟩; have hcW : Below w3.heap.size w3 ((w3.alloc (.cells #[.int .i64 (x1 : Int), .int .i64 (x2 : Int)] 109)).alloc (.cells #[.int .i64 0, .slice none 0 0, .slice none 0 0] 86)).drew := ((alloc_below w3 (.cells #[.int .i64 (x1 : Int), .int .i64 (x2 : Int)] 109)).trans ((alloc_below (w3.alloc (.cells #[.int .i64 (x1 : Int), .int .i64 (x2 : Int)] 109)) (.cells #[.int .i64 0, .slice none 0 0, .slice none 0 0] 86)).mono (by simp))).drew; have hc5 : Below w3.heap.size w3 w5 := hcW.trans (hb5.mono hcW.size); have ho5 := own_mono (base' := w3.heap.size) ho5' hcW.size; have hz5 := hc5.size; have hsl := Sl.later (show Sl ((w3.alloc (.cells #[.int .i64 (x1 : Int), .int .i64 (x2 : Int)] 109)).alloc (.cells #[.int .i64 0, .slice none 0 0, .slice none 0 0] 86)).drew 2 _ 1 [.int .i64 (x1 : Int), .int .i64 (x2 : Int)] from Sl.later (sl_new w3 [Value.int .i64 (x1 : Int), Value.int .i64 (x2 : Int)] 109) (alloc_below (w3.alloc (.cells #[.int .i64 (x1 : Int), .int .i64 (x2 : Int)] 109)) (.cells #[.int .i64 0, .slice none 0 0, .slice none 0 0] 86)).drew) hb5; have hbz := Bx.next (show Bx ((w3.alloc (.cells #[.int .i64 (x1 : Int), .int .i64 (x2 : Int)] 109)).alloc (.cells #[.int .i64 0, .slice none 0 0, .slice none 0 0] 86)).drew (w3.heap.size + 1) [.int .i64 0, .slice none 0 0, .slice none 0 0] from (by have h := bx_new (w3.alloc (.cells #[.int .i64 (x1 : Int), .int .i64 (x2 : Int)] 109)) [.int .i64 0, .slice none 0 0, .slice none 0 0] 86; rw [show (w3.alloc (.cells #[.int .i64 (x1 : Int), .int .i64 (x2 : Int)] 109)).heap.size = w3.heap.size + 1 by simp] at h; exact h)) hb5; have hbn := fun k (e : (Value.slice p5 n c5).ownBlock = some k) => (ho5'.lt k e).1; obtain ⟨hq0, hq1, hq2, hq3, hq4, hq5⟩ := hbz.three; have hnb0 : ¬ gx = w5.heap.size := (by omega); have hnb1 : ¬ w5.heap.size = gx := (by omega); have hnb2 : ¬ gm = w5.heap.size := (by omega); have hnb3 : ¬ w5.heap.size = gm := (by omega); have hnb4 : ¬ gx = w5.heap.size + 1 := (by omega); have hnb5 : ¬ w5.heap.size + 1 = gx := (by omega); have hnb6 : ¬ gm = w5.heap.size + 1 := (by omega); have hnb7 : ¬ w5.heap.size + 1 = gm := (by omega); obtain ⟨hk0, hk1, hk2, hk3⟩ := HKP.out w5 hc5)
        | (go_at_call 69; refine (HCL.out ((w3.alloc (.cells #[.int .i64 0, .slice none 0 0, .slice none 0 0] 86)).alloc (.cells #[.int .i64 (x1 : Int), .int .i64 (x2 : Int)] 109)).drew ((alloc_below w3 (.cells #[.int .i64 0, .slice none 0 0, .slice none 0 0] 86)).trans ((alloc_below (w3.alloc (.cells #[.int .i64 0, .slice none 0 0, .slice none 0 0] 86)) (.cells #[.int .i64 (x1 : Int), .int .i64 (x2 : Int)] 109)).mono (by simp))).drew).mono ?_; rintro e w5 ⟨p5, c5, rfl, ho5', hb5⟩; have hcW : Below w3.heap.size w3 ((w3.alloc (.cells #[.int .i64 0, .slice none 0 0, .slice none 0 0] 86)).alloc (.cells #[.int .i64 (x1 : Int), .int .i64 (x2 : Int)] 109)).drew := ((alloc_below w3 (.cells #[.int .i64 0, .slice none 0 0, .slice none 0 0] 86)).trans ((alloc_below (w3.alloc (.cells #[.int .i64 0, .slice none 0 0, .slice none 0 0] 86)) (.cells #[.int .i64 (x1 : Int), .int .i64 (x2 : Int)] 109)).mono (by simp))).drew; have hc5 : Below w3.heap.size w3 w5 := hcW.trans (hb5.mono hcW.size); have ho5 := own_mono (base' := w3.heap.size) ho5' hcW.size; have hz5 := hc5.size; have hsl := Sl.later (show Sl ((w3.alloc (.cells #[.int .i64 0, .slice none 0 0, .slice none 0 0] 86)).alloc (.cells #[.int .i64 (x1 : Int), .int .i64 (x2 : Int)] 109)).drew 2 _ 1 [.int .i64 (x1 : Int), .int .i64 (x2 : Int)] from (by have h := sl_new (w3.alloc (.cells #[.int .i64 0, .slice none 0 0, .slice none 0 0] 86)) [Value.int .i64 (x1 : Int), Value.int .i64 (x2 : Int)] 109; rw [show (w3.alloc (.cells #[.int .i64 0, .slice none 0 0, .slice none 0 0] 86)).heap.size = w3.heap.size + 1 by simp] at h; exact h)) hb5; have hbz := Bx.next (show Bx ((w3.alloc (.cells #[.int .i64 0, .slice none 0 0, .slice none 0 0] 86)).alloc (.cells #[.int .i64 (x1 : Int), .int .i64 (x2 : Int)] 109)).drew w3.heap.size [.int .i64 0, .slice none 0 0, .slice none 0 0] from Bx.alloc (bx_new w3 _ _) _) hb5; have hbn := fun k (e : (Value.slice p5 n c5).ownBlock = some k) => (ho5'.lt k e).1; obtain ⟨hq0, hq1, hq2, hq3, hq4, hq5⟩ := hbz.three; have hnb0 : ¬ gx = w5.heap.size := (by omega); have hnb1 : ¬ w5.heap.size = gx := (by omega); have hnb2 : ¬ gm = w5.heap.size := (by omega); have hnb3 : ¬ w5.heap.size = gm := (by omega); have hnb4 : ¬ gx = w5.heap.size + 1 := (by omega); have hnb5 : ¬ w5.heap.size + 1 = gx := (by omega); have hnb6 : ¬ gm = w5.heap.size + 1 := (by omega); have hnb7 : ¬ w5.heap.size + 1 = gm := (by omega); obtain ⟨hk0, hk1, hk2, hk3⟩ := HKP.out w5 hc5)
        | (refine step_app (w0 := w3) (n := n) (xs := mcs loose) rfl _ _ _ rfl w3.heap.size 109 Try.underlying39 inf_ml rfl (by decide) rfl (by first | exact ho5 | exact ho5.alloc _ | exact (ho5.alloc _).alloc _) rfl (news := [.int .i64 (x1 : Int), .int .i64 (x2 : Int)]) (by first | exact hsl | exact sl_new _ _ _ | exact Sl.later hsl (alloc_below _ _) | exact Sl.later (sl_new _ _ _) (alloc_below _ _) | (have h := sl_new (w5.alloc (.cells #[.int .i64 0, .slice none 0 0, .slice none 0 0] 86)) [Value.int .i64 (x1 : Int), Value.int .i64 (x2 : Int)] 109; rwa [show (w5.alloc (.cells #[.int .i64 0, .slice none 0 0, .slice none 0 0] 86)).heap.size = w5.heap.size + 1 by simp] at h)) (by simp [Value.oneCell']) (by unfold maxLen; omega) (by omega) (by first | exact hc5 | exact hc5.alloc hz5 _ | exact (hc5.alloc hz5 _).alloc (by simp; omega) _) (by first | exact hz5 | (simp; omega)) ?_; intro p6 c6 w6 hown6 hb6 hz6 hg6' hbk6'; have hbk6 : (Value.slice p6 (n + 1) c6).ownBlock = (Value.slice p5 n c5).ownBlock ∨ (Value.slice p6 (n + 1) c6).ownBlock = some (World.heap _).size := hbk6'; clear hbk6'; have hg6 : World.grownBy _ w6 (Value.slice p5 n c5).ownBlock := hg6'; clear hg6'; have hnc0 : ¬ gx = w6.heap.size := (by omega); have hnc1 : ¬ w6.heap.size = gx := (by omega); have hnc2 : ¬ gm = w6.heap.size := (by omega); have hnc3 : ¬ w6.heap.size = gm := (by omega); have hnc4 : ¬ gx = w6.heap.size + 1 := (by omega); have hnc5 : ¬ w6.heap.size + 1 = gx := (by omega); have hnc6 : ¬ gm = w6.heap.size + 1 := (by omega); have hnc7 : ¬ w6.heap.size + 1 = gm := (by omega); obtain ⟨hk0, hk1, hk2, hk3⟩ := HKP.out w6 hb6; (first | (have hbzW := hbz; have hbh := box_app hbzW hg6 hbk6 (fun e => (by have h := hbn _ e; (first | omega | (simp at h; done) | (simp at h; omega)))); obtain ⟨hbz6, hne6⟩ := hbh; obtain ⟨hq0, hq1, hq2, hq3, hq4, hq5⟩ := hbz6.three) | (have hbzW := (hbz.alloc (.cells #[.int .i64 (x1 : Int), .int .i64 (x2 : Int)] 109)); have hbh := box_app hbzW hg6 hbk6 (fun e => (by have h := hbn _ e; (first | omega | (simp at h; done) | (simp at h; omega)))); obtain ⟨hbz6, hne6⟩ := hbh; obtain ⟨hq0, hq1, hq2, hq3, hq4, hq5⟩ := hbz6.three) | (have hbzW := (bx_new w5 [.int .i64 0, .slice none 0 0, .slice none 0 0] 86); have hbh := box_app hbzW hg6 hbk6 (fun e => (by have h := (ho5.lt _ e).2; (first | omega | (simp at h; done) | (simp at h; omega)))); obtain ⟨hbz6, hne6⟩ := hbh; obtain ⟨hq0, hq1, hq2, hq3, hq4, hq5⟩ := hbz6.three) | (have hbzW := (Bx.alloc (bx_new w5 [.int .i64 0, .slice none 0 0, .slice none 0 0] 86) (.cells #[.int .i64 (x1 : Int), .int .i64 (x2 : Int)] 109)); have hbh := box_app hbzW hg6 hbk6 (fun e => (by have h := (ho5.lt _ e).2; (first | omega | (simp at h; done) | (simp at h; omega)))); obtain ⟨hbz6, hne6⟩ := hbh; obtain ⟨hq0, hq1, hq2, hq3, hq4, hq5⟩ := hbz6.three) | (have hbzW := (show Bx ((w5.alloc (.cells #[.int .i64 (x1 : Int), .int .i64 (x2 : Int)] 109)).alloc (.cells #[.int .i64 0, .slice none 0 0, .slice none 0 0] 86)) (w5.heap.size + 1) [.int .i64 0, .slice none 0 0, .slice none 0 0] from by have h := bx_new (w5.alloc (.cells #[.int .i64 (x1 : Int), .int .i64 (x2 : Int)] 109)) [.int .i64 0, .slice none 0 0, .slice none 0 0] 86; rwa [show (w5.alloc (.cells #[.int .i64 (x1 : Int), .int .i64 (x2 : Int)] 109)).heap.size = w5.heap.size + 1 by simp] at h); have hbh := box_app hbzW hg6 hbk6 (fun e => (by have h := (ho5.lt _ e).2; (first | omega | (simp at h; done) | (simp at h; omega)))); obtain ⟨hbz6, hne6⟩ := hbh; obtain ⟨hq0, hq1, hq2, hq3, hq4, hq5⟩ := hbz6.three) | skip))
        | fail)
    all_goals go_wp2_with fail
    all_goals go_meet
    all_goals
      rw [mcs_snoc]
      first
        | exact ⟨_, p6, c6, rfl, hz6, bx_new w6 _ _, Lib.hid (hown6.alloc _), (fun e => by have := (hown6.lt _ e).2; omega), hb6.alloc hz6 _⟩
        | exact ⟨_, p6, c6, rfl, (by first | exact Nat.le_refl _ | exact hz5 | omega), ((hbz6.setc 0 _).setc 1 _).setc 2 _, Lib.hid (own_setCell_ne (own_setCell_ne (own_setCell_ne hown6 hne6 _) hne6 _) hne6 _), hne6, ((hb6.setCell (by first | exact Nat.le_refl _ | exact hz5 | exact Nat.le_succ_of_le hz5 | exact Nat.le_succ _) _).setCell (by first | exact Nat.le_refl _ | exact hz5 | exact Nat.le_succ_of_le hz5 | exact Nat.le_succ _) _).setCell (by first | exact Nat.le_refl _ | exact hz5 | exact Nat.le_succ_of_le hz5 | exact Nat.le_succ _) _⟩
  case rest =>
  obtain ⟨g9, p9, c9, rfl, hg9, HB9, HO9, hne9, hb4⟩ := hcut
  obtain ⟨w4, rfl⟩ : ∃ w4 : World, w4 = wc := ⟨_, rfl⟩
  have hz34 := hb4.size
  have hbw4 := hbw3.trans (hb4.mono hbw3.size)
  have HX1' := Lib.hid (HX1.out.next hb4)
  have HX3' := Lib.hid (HX3.out.next hb4)
  have HB9h := Lib.hid HB9
  have hg9l := HB9.lt
  obtain ⟨hx0, hx1, hx2, _, _, _⟩ := HX1'.out.three
  clear HX1 HX2 HX3 hm0 hm1 HCL HQM HL
  go_wp2_with fail
  have HGR := Lib.hid (fun (W : World) (hW : w4.grownBy W (some g9)) => (show Below w3.heap.size w3 W from hb4.grown hW hz34 (fun k hk => by cases hk; exact hg9)))
  clear hx0 hx1 hx2
  go_loopg [11, 45] m (fun gk v11 v45 wr => ∃ (k : Nat) (p' : Option Addr) (c' : Nat) (vs : List Value), v45 = .int .i64 (k : Int) ∧ k + gk = m ∧ Bx wr g9 [.int .i64 (bud : Int), .slice p9 (n + 1) c9, .slice p' k c'] ∧ Hid (OwnRR (fun r => bys (packL r)) 56 5 1 (fun r => (packL r).length) wr w4.heap.size (.slice p' k c') k (runs.take k) vs) ∧ w4.grownBy wr (some g9))
  case atStart => exact ⟨0, none, 0, [], rfl, by omega, HB9, Lib.hid (OwnRR.nil _ _), World.grownBy.refl _ _⟩
  case round =>
    obtain ⟨k, p', c', vs, rfl, hgk, HBX, HO, hgr⟩ := hrel
    have HGK := Lib.hid hgk
    have hk : k ≤ m := by omega
    clear hgk
    have hb := HGR.out _ hgr
    have hsz := hgr.size
    by_cases hltk : k < m
    · have hkl : k < runs.length := by have := HM.out; omega
      obtain ⟨bb, off, qr, dr, rfl, hc0, hsl⟩ := (HR.out.later (hbw3.trans (hb.mono hbw3.size))).get hkl
      have hro := HRO.out _ (List.getElem_mem hkl)
      have HTK := Lib.hid (show runs.take (k + 1) = runs.take k ++ [runs[k]] from List.take_succ_eq_append_getElem hkl)
      generalize runs[k] = r at hc0 hsl hro HTK
      have hpl := hro.len_le
      have hr1 := hro.le
      have hbl := bys_len (packL r)
      have HCB := Lib.hid (fun (W : World) (hW : Below wr.heap.size wr W) => cloneB_ok (packL r).length dr qr (bys (packL r)) W (hsl.later hW) (bys_oneQ _) (by omega))
      obtain ⟨pl, hple⟩ : ∃ pl, pl = (packL r).length := ⟨_, rfl⟩
      have HPL := Lib.hid hple
      rw [← hple] at HCB hpl hc0
      clear hple hbl hsl hro
      have hk0 : (0 : Int) ≤ (k : Int) := by omega
      have hkn : (k : Int) < (m : Int) := by omega
      have hd1 : decide ((k : Int) < (m : Int)) = true := by simp; omega
      have hd2 : decide (k < m) = true := by simp; omega
      clear hltk
      go_upto_region 12 with fail
      have hq2 := HBX.three.2.2.1
      obtain ⟨S, hSI⟩ : ∃ S : World → Prop, ∀ w', S w' ↔ (w'.cell? ⟨g9, 2, none⟩ = some (Value.slice p' k c')) := ⟨fun w' => _, fun w' => Iff.rfl⟩
      have HSI := Lib.hid hSI
      clear hSI
      refine wp_region_L S 7 (by kernel_rfl) ((HSI.out _).2 hq2) (fun hS => ?_)
      clear hq2 hc0
      refine wpAnyL_take 0 (v := ?_) rfl rfl (by kernel_rfl) (by kernel_rfl) (by kernel_rfl) (by kernel_rfl) (fun _ _ _ h => h) (Or.inl ⟨by rfl, ?_⟩) hS ?_; rotate_left; · intro w hSw; go_simp <;> with_reducible rfl
      try simp only [Act.put, List.setIfInBounds_toArray, List.set_cons_zero, List.set_cons_succ]
      refine wpAnyL_take 1 (v := ?_) rfl rfl (by kernel_rfl) (by kernel_rfl) (by kernel_rfl) (by kernel_rfl) (fun _ _ _ h => h) (Or.inl ⟨by rfl, ?_⟩) hS ?_; rotate_left; · intro w hSw; have hz0 := (HSI.out w).1 hSw; go_simp <;> with_reducible rfl
      try simp only [Act.put, List.setIfInBounds_toArray, List.set_cons_zero, List.set_cons_succ]
      refine wpAnyL_take 2 (v := ?_) rfl rfl (by kernel_rfl) (by kernel_rfl) (by kernel_rfl) (by kernel_rfl) (fun _ _ _ h => h) (Or.inl ⟨by rfl, ?_⟩) hS ?_; rotate_left; · intro w hSw; go_simp <;> with_reducible rfl
      try simp only [Act.put, List.setIfInBounds_toArray, List.set_cons_zero, List.set_cons_succ]
      refine wpAnyL_one 3 rfl rfl (by kernel_rfl) ?_; intro K hK; rw [if_pos (by rfl)]
      go_simp
      refine (HCB.out _ (below_drew (Below.refl _ _))).mono ?_; rintro e w6 ⟨p6, c6, rfl, ho6, hb6⟩
      have hc6 : Below wr.heap.size wr w6 := (Below.refl _ wr).drew.trans hb6
      have hz6 := hc6.size
      have hB6 := HBX.next hc6
      have hO6 := HO.out.later hc6
      have hq2 := hB6.three.2.2.1
      refine hK.out _ _ (fun _ => (HSI.out _).2 hq2) ?_; clear hK K
      have hS := (HSI.out _).2 hq2
      clear hq2
      try simp only [Act.put, List.setIfInBounds_toArray, List.set_cons_zero, List.set_cons_succ]
      refine wpAnyL_one 4 rfl rfl (by kernel_rfl) ?_; intro K hK; rw [if_pos (by rfl)]
      go_simp
      have hB7 := hB6.alloc (.cells #[.slice p6 pl c6] 56)
      have hq2 := hB7.three.2.2.1
      refine hK.out _ _ (fun _ => (HSI.out _).2 hq2) ?_; clear hK K
      have hS := (HSI.out _).2 hq2
      clear hq2
      try simp only [Act.put, List.setIfInBounds_toArray, List.set_cons_zero, List.set_cons_succ]
      refine wpAnyL_one 5 rfl rfl (by kernel_rfl) ?_; intro K hK; rw [if_pos (by rfl)]
      refine wp_app_op (.tmp 50) (.tmp 53) _ rfl w4.heap.size 56 rfl inf_bs rfl (by decide) rfl (hO6.outer.alloc _) rfl (news := [.slice p6 pl c6]) (sl_new w6 [Value.slice p6 pl c6] 56) (by simp [Value.oneCell']) (by unfold maxLen; omega) (by omega) (Below.refl _ _) (by simp; omega) ?_
      intro p7 c7 w7 hown7 hb7 hs7 hg7 hnb7
      clear hS
      have hfar : ∀ j, (Value.slice p6 pl c6).ownBlock = some j → (Value.slice p' k c').ownBlock ≠ some j := fun j hj e => by have h1 := (ho6.lt j hj).1; have h2 := (HO.out.outer.lt j e).2; have h3 : wr.drew.heap.size = wr.heap.size := rfl; omega
      have hgw7 : w6.grownBy w7 (Value.slice p' k c').ownBlock := ⟨hg7.os, hg7.tape, hg7.output, Nat.le_trans (World.grownBy_alloc w6 _ none).size hg7.size, fun j hj hr => (hg7.block j (Nat.lt_of_lt_of_le hj (World.grownBy_alloc w6 _ none).size) hr).trans ((World.grownBy_alloc w6 _ none).block j hj (by simp))⟩
      have HP := OwnRR.push hO6 hgw7 (r := r) (by rw [← HPL.out]; exact own_mono ho6 hsz) hfar hown7 (by rcases hnb7 with h | h; exact .inl h; exact .inr ⟨_, by simp, h⟩)
      have hB8 := hB7.grown hg7 (fun e => by have := (hO6.outer.lt _ e).1; omega)
      have hq2 := hB8.three.2.2.1
      have hqf := hB8.three.2.2.2.2.2
      refine hK.out _ _ (fun _ => (HSI.out _).2 hq2) ?_; clear hK K
      have hS := (HSI.out _).2 hq2
      try simp only [Act.put, List.setIfInBounds_toArray, List.set_cons_zero, List.set_cons_succ]
      refine wpAnyL_take 6 (v := ?_) rfl rfl (by kernel_rfl) (by kernel_rfl) (by kernel_rfl) (by kernel_rfl) (fun _ _ _ h => h) (Or.inl ⟨by rfl, ?_⟩) hS ?_; rotate_left; · intro w hSw; go_simp <;> with_reducible rfl
      try simp only [Act.put, List.setIfInBounds_toArray, List.set_cons_zero, List.set_cons_succ]
      refine wpAnyL_one 7 rfl rfl (by kernel_rfl) ?_; intro K hK; rw [if_pos (by rfl)]
      go_simp
      refine hK.out _ _ (fun h => absurd rfl h) ?_; clear hK K
      refine wpAnyL_done (by kernel_rfl) ?_ _
      have HX10 := Lib.hid (show Bx (w7.setCell ⟨g9, 2, none⟩ (.slice p7 (k + 1) c7)) g9 [.int .i64 (bud : Int), .slice p9 (n + 1) c9, .slice p7 (k + 1) c7] from hB8.setc 2 _)
      have HO10 := Lib.hid (HP.grown (grown_set (s := g9) (i := 2) (u := .slice p7 (k + 1) c7)) (fun k hk => by cases hk; exact hg9l))
      rw [← HTK.out] at HO10
      have HG10 := Lib.hid (grown_trans (grown_new (grown_trans hgr (grown_belowS hc6)) hgw7 (fun k hk => (hO6.outer.lt k hk).1)) (grown_set (s := g9) (i := 2) (u := .slice p7 (k + 1) c7)))
      clear hS hq2 hqf hB7 hB8 hO6 HP hgw7
      go_wp2_with fail
      go_roundg (m - (k + 1))
      case measure => have := HGK.out; omega
      case rel => exact ⟨k + 1, p7, c7, _, by go_num, by omega, HX10.out, HO10, HG10.out⟩
    · obtain rfl : m = k := by omega
      have hd1 : decide ((m : Int) < (m : Int)) = false := by simp
      have hd2 : decide (m < m) = false := by simp
      have HO2 := Lib.hid (show OwnRR (fun r => bys (packL r)) 56 5 1 (fun r => (packL r).length) wr w4.heap.size (.slice p' m c') m runs vs by have := HO.out; rw [List.take_of_length_le (by have := HM.out; omega)] at this; exact this)
      have HBXh := Lib.hid HBX
      obtain ⟨hy0, hy1, hy2, _, _, _⟩ := HBX.three
      have HX1r := Lib.hid (HX1'.out.grown hgr (fun e => by cases e; omega))
      have HX3r := Lib.hid (HX3'.out.grown hgr (fun e => by cases e; omega))
      have HL9 := Lib.hid (own_grown HO9.out hgr (fun k hk e => by cases e; exact hne9 hk))
      have hbwr := Lib.hid (hbw3.trans (hb.mono hbw3.size))
      have hwr := hb.size
      obtain ⟨hx0, hx1, hx2, _, _, _⟩ := HX1r.out.three
      obtain ⟨hz0, hz1, hz2, hz3, hz4, hz5⟩ := HX3r.out.three
      have hgr0 := HGR.out _ hgr
      have hgzl := HX3r.out.lt
      have hbw3z := hbw3.size
      have hbw4z := hbw4.size
      clear HO hltk hne9 hbw4 hbw3 HB9 HB9h
      by_cases hfull : n + 1 = bud
      · have HLO := Lib.hid (show (loose ++ [(x1, x2)]).length = n + 1 by rw [HN.out]; simp)
        have HRU := Lib.hid (show RunOk (srt cfM (loose ++ [(x1, x2)])) from srt_run (by rw [HLO.out]; omega) (by rw [HLO.out]; omega) (fun m hm => by
          rcases List.mem_append.1 hm with hm | hm
          · exact HOK.out m hm
          · rw [List.mem_singleton.1 hm]; exact HXM.out))
        have hpq : pushQ ⟨bud, loose, runs⟩ (x1, x2) = ⟨bud, [], runs ++ [srt cfM (loose ++ [(x1, x2)])]⟩ := by unfold pushQ; rw [if_pos (by rw [← HN.out]; exact hfull)]
        have HPQ := Lib.hid hpq
        have HSO := Lib.hid (sortM_ok (n + 1) c9 p9 (loose ++ [(x1, x2)]) wr (Sl.of_own HL9.out) (by omega))
        have hpl := HRU.out.len_le
        rw [srt_len, HLO.out] at hpl
        have hrl : (srt cfM (loose ++ [(x1, x2)])).length = n + 1 := by rw [srt_len, HLO.out]
        have HPK := Lib.hid (fun (W : World) (q : Option Addr) (d : Nat) (h : Sl W 2 (.slice q (n + 1) d) (n + 1) (mcs (srt cfM (loose ++ [(x1, x2)])))) => pack_ok (n + 1) d q _ W h HRU.out)
        generalize srt cfM (loose ++ [(x1, x2)]) = r at *
        obtain ⟨pl, hple⟩ : ∃ pl, pl = (packL r).length := ⟨_, rfl⟩
        have HPL := Lib.hid hple
        rw [← hple] at HPK hpl
        have he1 : ((n : Int) + 1 == (bud : Int)) = true := by simp; omega
        have he2 : (n + 1 == bud) = true := by simp; omega
        have HFU := Lib.hid hfull
        clear hpq hple hrl hfull
        go_wp2_with fail
        refine HSO.out.mono ?_; rintro e w5 ⟨p5, c5, rfl, ho5, hb5⟩
        have HB5 := Lib.hid (HBXh.out.next hb5)
        have HX35 := Lib.hid (HX3r.out.next hb5)
        have HO5r := Lib.hid (HO2.out.later hb5)
        have HS5 := Lib.hid ho5
        have hz5w := hb5.size
        have hbw5 := Lib.hid (hbwr.out.trans (hb5.mono hbwr.out.size))
        obtain ⟨hy0, hy1, hy2, hy3, hy4, hy5⟩ := HB5.out.three
        clear ho5 HSO
        go_upto_region 17 with fail
        have HBX6 := Lib.hid (show Bx (w5.setCell ⟨g9, 1, none⟩ (.slice none 0 0)) g9 [.int .i64 (bud : Int), .slice none 0 0, .slice p' m c'] from HB5.out.setc 1 _)
        have HO6r := Lib.hid (HO5r.out.grown (grown_set (s := g9) (i := 1) (u := .slice none 0 0)) (fun k hk => by cases hk; exact hg9l))
        have HX36 := Lib.hid (bx_oth HX35.out (a := ⟨g9, 1, none⟩) (by show ¬ gz = g9; omega) (.slice none 0 0))
        have HS6 := Lib.hid (Sl.of_own (own_setCell_ne HS5.out (a := ⟨g9, 1, none⟩) (fun e => by have := (HS5.out.lt _ e).1; simp at this; omega) (.slice none 0 0)))
        have hbw6 := Lib.hid (show Below w.heap.size w (w5.setCell ⟨g9, 1, none⟩ (.slice none 0 0)) from hbw5.out.setCell (by show w.heap.size ≤ g9; omega) _)
        have hz6w : w4.heap.size ≤ (w5.setCell ⟨g9, 1, none⟩ (.slice none 0 0)).heap.size := by simp; omega
        clear HB5 HO5r HX35 HS5 hbw5 hy0 hy1 hy2 hy3 hy4 hy5
        generalize (w5.setCell ⟨g9, 1, none⟩ (.slice none 0 0)) = ws at *
        have hq2 := HBX6.out.three.2.2.1
        obtain ⟨S, hSI⟩ : ∃ S : World → Prop, ∀ w', S w' ↔ (w'.cell? ⟨g9, 2, none⟩ = some (Value.slice p' m c')) := ⟨fun w' => _, fun w' => Iff.rfl⟩
        have HSI := Lib.hid hSI
        clear hSI
        refine wp_region_L S 7 (by kernel_rfl) ((HSI.out _).2 hq2) (fun hS => ?_)
        clear hq2
        refine wpAnyL_take 0 (v := ?_) rfl rfl (by kernel_rfl) (by kernel_rfl) (by kernel_rfl) (by kernel_rfl) (fun _ _ _ h => h) (Or.inl ⟨by rfl, ?_⟩) hS ?_; rotate_left; · intro w hSw; go_simp <;> with_reducible rfl
        try simp only [Act.put, List.setIfInBounds_toArray, List.set_cons_zero, List.set_cons_succ]
        refine wpAnyL_take 1 (v := ?_) rfl rfl (by kernel_rfl) (by kernel_rfl) (by kernel_rfl) (by kernel_rfl) (fun _ _ _ h => h) (Or.inl ⟨by rfl, ?_⟩) hS ?_; rotate_left; · intro w hSw; have hz0 := (HSI.out w).1 hSw; go_simp <;> with_reducible rfl
        try simp only [Act.put, List.setIfInBounds_toArray, List.set_cons_zero, List.set_cons_succ]
        refine wpAnyL_take 2 (v := ?_) rfl rfl (by kernel_rfl) (by kernel_rfl) (by kernel_rfl) (by kernel_rfl) (fun _ _ _ h => h) (Or.inl ⟨by rfl, ?_⟩) hS ?_; rotate_left; · intro w hSw; go_simp <;> with_reducible rfl
        try simp only [Act.put, List.setIfInBounds_toArray, List.set_cons_zero, List.set_cons_succ]
        refine wpAnyL_one 3 rfl rfl (by kernel_rfl) ?_; intro K hK; rw [if_pos (by rfl)]
        go_simp
        refine (HPK.out ws.drew _ _ HS6.out).mono ?_; rintro e w6 ⟨p6, c6, rfl, ho6, hb6⟩
        have hc6 : Below ws.heap.size ws w6 := (Below.refl _ ws).drew.trans hb6
        have hz6 := hc6.size
        have hB6 := HBX6.out.next hc6
        have hO6 := HO6r.out.later hc6
        have hq2 := hB6.three.2.2.1
        refine hK.out _ _ (fun _ => (HSI.out _).2 hq2) ?_; clear hK K
        have hS := (HSI.out _).2 hq2
        clear hq2
        try simp only [Act.put, List.setIfInBounds_toArray, List.set_cons_zero, List.set_cons_succ]
        refine wpAnyL_one 4 rfl rfl (by kernel_rfl) ?_; intro K hK; rw [if_pos (by rfl)]
        go_simp
        have hB7 := hB6.alloc (.cells #[.slice p6 pl c6] 56)
        have hq2 := hB7.three.2.2.1
        refine hK.out _ _ (fun _ => (HSI.out _).2 hq2) ?_; clear hK K
        have hS := (HSI.out _).2 hq2
        clear hq2
        try simp only [Act.put, List.setIfInBounds_toArray, List.set_cons_zero, List.set_cons_succ]
        refine wpAnyL_one 5 rfl rfl (by kernel_rfl) ?_; intro K hK; rw [if_pos (by rfl)]
        refine wp_app_op (.tmp 71) (.tmp 74) _ rfl w4.heap.size 56 rfl inf_bs rfl (by decide) rfl (hO6.outer.alloc _) rfl (news := [.slice p6 pl c6]) (sl_new w6 [Value.slice p6 pl c6] 56) (by simp [Value.oneCell']) (by unfold maxLen; omega) (by omega) (Below.refl _ _) (by simp; omega) ?_
        intro p7 c7 w7 hown7 hb7 hs7 hg7 hnb7
        clear hS
        have hfar : ∀ j, (Value.slice p6 pl c6).ownBlock = some j → (Value.slice p' m c').ownBlock ≠ some j := fun j hj e => by have h1 := (ho6.lt j hj).1; have h2 := (HO6r.out.outer.lt j e).2; have h3 : ws.drew.heap.size = ws.heap.size := rfl; omega
        have hgw7 : w6.grownBy w7 (Value.slice p' m c').ownBlock := ⟨hg7.os, hg7.tape, hg7.output, Nat.le_trans (World.grownBy_alloc w6 _ none).size hg7.size, fun j hj hr => (hg7.block j (Nat.lt_of_lt_of_le hj (World.grownBy_alloc w6 _ none).size) hr).trans ((World.grownBy_alloc w6 _ none).block j hj (by simp))⟩
        have HP := OwnRR.push hO6 hgw7 (r := r) (by rw [← HPL.out]; exact own_mono ho6 hz6w) hfar hown7 (by rcases hnb7 with h | h; exact .inl h; exact .inr ⟨_, by simp, h⟩)
        have hX37 := (HX36.out.next hc6).grown hgw7 (fun e => by have := (hO6.outer.lt _ e).1; omega)
        have hbw7 := (hbw6.out.trans (hc6.mono hbw6.out.size)).grown hgw7 (Nat.le_trans hbw6.out.size hz6) (fun k hk => by have := (hO6.outer.lt k hk).1; omega)
        have hB8 := hB7.grown hg7 (fun e => by have := (hO6.outer.lt _ e).1; omega)
        have hq2 := hB8.three.2.2.1
        have hqf := hB8.three.2.2.2.2.2
        refine hK.out _ _ (fun _ => (HSI.out _).2 hq2) ?_; clear hK K
        have hS := (HSI.out _).2 hq2
        try simp only [Act.put, List.setIfInBounds_toArray, List.set_cons_zero, List.set_cons_succ]
        refine wpAnyL_take 6 (v := ?_) rfl rfl (by kernel_rfl) (by kernel_rfl) (by kernel_rfl) (by kernel_rfl) (fun _ _ _ h => h) (Or.inl ⟨by rfl, ?_⟩) hS ?_; rotate_left; · intro w hSw; go_simp <;> with_reducible rfl
        try simp only [Act.put, List.setIfInBounds_toArray, List.set_cons_zero, List.set_cons_succ]
        refine wpAnyL_one 7 rfl rfl (by kernel_rfl) ?_; intro K hK; rw [if_pos (by rfl)]
        go_simp
        refine hK.out _ _ (fun h => absurd rfl h) ?_; clear hK K
        refine wpAnyL_done (by kernel_rfl) ?_ _
        have HX10 := Lib.hid (show Bx (w7.setCell ⟨g9, 2, none⟩ (.slice p7 (m + 1) c7)) g9 [.int .i64 (bud : Int), .slice none 0 0, .slice p7 (m + 1) c7] from hB8.setc 2 _)
        have HX38 := Lib.hid (bx_oth hX37 (a := ⟨g9, 2, none⟩) (by show ¬ gz = g9; omega) (.slice p7 (m + 1) c7))
        have HO10 := Lib.hid (HP.grown (grown_set (s := g9) (i := 2) (u := .slice p7 (m + 1) c7)) (fun k hk => by cases hk; exact hg9l))
        have hbw8 := Lib.hid (show Below w.heap.size w (w7.setCell ⟨g9, 2, none⟩ (.slice p7 (m + 1) c7)) from hbw7.setCell (by show w.heap.size ≤ g9; omega) _)
        clear hS hq2 hqf hB7 hB8 hO6 HP hgw7 hX37 hbw7 hown7 hb7 hs7 hg7 hnb7 ho6 hb6 hc6 hB6
        generalize (w7.setCell ⟨g9, 2, none⟩ (.slice p7 (m + 1) c7)) = w8 at *
        obtain ⟨hy0, hy1, hy2, _, _, _⟩ := HX10.out.three
        obtain ⟨hz0, hz1, hz2, hz3, hz4, hz5⟩ := HX38.out.three
        go_wp2_with fail
        refine bodyPost_ret (v := .tuple #[.agg #[.int .i64 (bud : Int), .slice none 0 0, .slice p7 (m + 1) c7], .int .i64 0]) ?_ rfl ⟨_, rfl, ?_, ?_⟩
        · rw [results_cell_tmp rfl]
          go_simp
        · rw [HPQ.out]
          have hg1 := grown_trans (grown_set (w := w8) (s := gz) (i := 0) (u := .int .i64 (bud : Int))) (grown_trans (grown_set (s := gz) (i := 1) (u := .slice none 0 0)) (grown_set (s := gz) (i := 2) (u := .slice p7 (m + 1) c7)))
          have hr := (HO10.out.grown hg1 (fun k hk => by cases hk; omega)).mono hbw4z
          have e1 : (runs ++ [r]).length = m + 1 := by rw [HM.out]; simp
          exact ⟨none, 0, p7, c7, _, by rw [e1]; rfl, World.ownsRow_nil _ _ _ _, by rw [e1]; exact hr⟩
        · iterate 3 (refine Below.setCell ?_ (by show w.heap.size ≤ gz; exact hgz0) _)
          exact hbw8.out
      · have hpq : pushQ ⟨bud, loose, runs⟩ (x1, x2) = ⟨bud, loose ++ [(x1, x2)], runs⟩ := by unfold pushQ; rw [if_neg (by rw [← HN.out]; exact hfull)]
        have HPQ := Lib.hid hpq
        have he1 : ((n : Int) + 1 == (bud : Int)) = false := by simp; omega
        have he2 : (n + 1 == bud) = false := by simp; omega
        clear hpq hfull
        go_wp2_with fail
        refine bodyPost_ret (v := .tuple #[.agg #[.int .i64 (bud : Int), .slice p9 (n + 1) c9, .slice p' m c'], .int .i64 0]) ?_ rfl ⟨_, rfl, ?_, ?_⟩
        · rw [results_cell_tmp rfl]
          go_simp
        · rw [HPQ.out]
          have hg1 := grown_trans (grown_set (w := wr) (s := gz) (i := 0) (u := .int .i64 (bud : Int))) (grown_trans (grown_set (s := gz) (i := 1) (u := .slice p9 (n + 1) c9)) (grown_set (s := gz) (i := 2) (u := .slice p' m c')))
          have hl := own_mono (own_grown HL9.out hg1 (fun k hk e => by cases e; have := (HL9.out.lt _ hk).1; omega)) hbw3z
          have hr := (HO2.out.grown hg1 (fun k hk => by cases hk; omega)).mono hbw4z
          have e1 : (loose ++ [(x1, x2)]).length = n + 1 := by rw [HN.out]; simp
          exact ⟨p9, c9, p', c', _, by rw [e1, ← HM.out], by rw [e1]; exact hl, by rw [← HM.out]; exact hr⟩
        · iterate 3 (refine Below.setCell ?_ (by show w.heap.size ≤ gz; exact hgz0) _)
          exact hbwr.out
end Go.Proofs.Ytcaolnpkpialdaa
