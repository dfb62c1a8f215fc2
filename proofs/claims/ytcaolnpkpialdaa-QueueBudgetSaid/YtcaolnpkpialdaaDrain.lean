/- The walks of queue.Drain and queue.Count. -/
import Derived.Test.YtcaolnpkpialdaaFilled
import Derived.Test.YtcaolnpkpialdaaMLists
namespace Go.Proofs.Ytcaolnpkpialdaa
open Go.RowKit Go.Sort Go.Proofs
theorem inf_mrowD : (Try.prog.info? 39).map (fun i => (i.zero, i.size, i.bytes)) = some (some (.slice none 0 0), 1, 24) := by kernel_rfl
/-- all that a queue holds -/
def Qu.all (q : Qu) : List (Nat × Nat) := q.runs.flatten ++ q.loose
theorem Qu.all_len (q : Qu) : q.all.length = q.many := by unfold Qu.all Qu.many; rw [List.length_append, List.length_flatten]; omega
theorem pushQ_all (q : Qu) (m : Nat × Nat) : (pushQ q m).all.Perm (q.all ++ [m]) := by
  unfold pushQ Qu.all
  split
  · simp only [List.flatten_append, List.flatten_cons, List.flatten_nil, List.append_nil, List.append_assoc]
    exact List.Perm.append_left _ (srt_perm _)
  · simp only [List.append_assoc]; exact List.Perm.refl _
theorem fillQ_all (bud : Nat) (l : List (Nat × Nat)) : (fillQ bud l).all.Perm l := by
  refine list_snoc (P := fun l => (fillQ bud l).all.Perm l) ?_ ?_ l
  · exact List.Perm.refl _
  · intro l m ih
    rw [fillQ_snoc]
    exact (pushQ_all _ m).trans (ih.append_right [m])
theorem fillQ_srt (bud : Nat) (l : List (Nat × Nat)) : srt cfM (fillQ bud l).all = srt cfM l :=
  srt_unique swoM totM ((srt_perm l).trans (fillQ_all bud l).symm) (srt_sorted swoM l)
set_option maxHeartbeats 8000000 in
set_option maxRecDepth 100000 in
theorem count_ok (v : Value) (q : Qu) (w : World) (hv : IsQ w v q) (hq : QuOk q) :
    Calls Try.prog 36 #[v] w fun e w' => e = .returned (.tuple #[.int .i64 (q.many : Int), .int .i64 0]) ∧ Below w.heap.size w w' := by
  have hv' := hv
  obtain ⟨p, c, pr, cr, rfl, -, -⟩ := hv'
  have HO := Lib.hid (fun (W : World) (hW : Below w.heap.size w W) => qopen_ok _ q W (hv.later hW) hq)
  generalize q.many = mn at *
  generalize q.bud = bd at *
  generalize q.loose.length = nl at *
  generalize q.runs.length = nr at *
  obtain ⟨b1, B1, z1⟩ := boxed0 w [.int .i64 (bd : Int), .slice p nl c, .slice pr nr cr] 86
  obtain ⟨hx0, hx1, hx2, _, _, _⟩ := B1.three
  have HB1 := Lib.hid b1
  clear hv hq B1 z1 b1
  go_enter Try.func36, Try.ntmps36
  go_wp2_with fail
  refine (HO.out _ HB1.out).mono ?_; rintro e w2 ⟨p2, c2, vs, rfl, -, hb2⟩
  go_wp2_with fail
  go_ret2
  exact ⟨rfl, HB1.out.trans (hb2.mono HB1.out.size)⟩
set_option maxHeartbeats 8000000 in
set_option maxRecDepth 100000 in
theorem drain_ok (v : Value) (q : Qu) (w : World) (hv : IsQ w v q) (hq : QuOk q) (hr5 : q.runs.length ≤ 4000) :
    Calls Try.prog 35 #[v] w fun e w' => ∃ p' c', e = .returned (.tuple #[.slice p' q.many c', .int .i64 0]) ∧ w'.ownsRow w.heap.size 109 2 (.slice p' q.many c') q.many (mcs (srt cfM q.all)) ∧ Below w.heap.size w w' := by
  have hv' := hv
  obtain ⟨p, c, pr, cr, rfl, hsl, -⟩ := hv'
  have HO := Lib.hid (fun (W : World) (hW : Below w.heap.size w W) => qopen_ok _ q W (hv.later hW) hq)
  have hll := hq.lt
  have hb2 := hq.b2
  have hmm := hq.most
  have HSO := Lib.hid (fun (W : World) (hW : Below w.heap.size w W) => sortM_ok _ c p q.loose W (hsl.later hW) (by omega))
  have HAL := Lib.hid (fun (vs : List Value) (p7 : Option Addr) (c7 : Nat) (w7 : World) (h : OwnRR mcs 39 109 2 List.length w7 w.heap.size (.slice p7 (q.runs.length + 1) c7) (q.runs.length + 1) (q.runs ++ [srt cfM q.loose]) vs) =>
    (show Calls Try.prog 20 #[.slice p7 (q.runs.length + 1) c7] w7 fun e w' => ∃ p' c', e = .returned (.tuple #[.slice p' q.many c', .int .i64 0]) ∧ w'.ownsRow w7.heap.size 109 2 (.slice p' q.many c') q.many (mcs (srt cfM q.all)) ∧ Below w7.heap.size w7 w' from by
      have e1 : (q.runs ++ [srt cfM q.loose]).flatten = q.runs.flatten ++ srt cfM q.loose := by simp
      have e2 : (q.runs ++ [srt cfM q.loose]).flatten.length = q.many := by rw [e1, ← q.all_len]; unfold Qu.all; rw [List.length_append, List.length_append, srt_len]
      have e3 : srt cfM (q.runs ++ [srt cfM q.loose]).flatten = srt cfM q.all := srt_unique swoM totM ((srt_perm _).trans (by rw [e1]; exact List.Perm.append_left _ (srt_perm _).symm)) (srt_sorted swoM _)
      have hls := lists_ok p7 (q.runs.length + 1) c7 (q.runs ++ [srt cfM q.loose]) w7 h.isRR (fun r hr => by
        rcases List.mem_append.1 hr with hr | hr
        · exact (hq.runs r hr).ord
        · rw [List.mem_singleton.1 hr]; exact srt_sorted swoM _) (by omega) (by rw [e2]; exact hmm)
      rw [e2, e3] at hls
      exact hls))
  have HLL := Lib.hid (srt_len (cf := cfM) q.loose)
  generalize srt cfM q.all = al at *
  generalize srt cfM q.loose = sl at *
  generalize q.many = mn at *
  generalize q.bud = bd at *
  generalize q.loose.length = nl at *
  obtain ⟨nr, hnr⟩ : ∃ nr, nr = q.runs.length := ⟨_, rfl⟩
  rw [← hnr] at HO HAL hr5 ⊢
  generalize q.runs = R at HO HAL
  obtain ⟨b1, B1, z1⟩ := boxed0 w [.int .i64 (bd : Int), .slice p nl c, .slice pr nr cr] 86
  have HX1 := Lib.hid B1
  obtain ⟨hx0, hx1, hx2, _, _, _⟩ := B1.three
  have HB1 := Lib.hid b1
  clear hv hq B1 z1 b1 hsl hnr hll hb2 hmm
  go_enter Try.func35, Try.ntmps35
  go_wp2_with fail
  refine (HO.out _ HB1.out).mono ?_; rintro e w2 ⟨p2, c2, vs, rfl, hrr, hb2⟩
  have HX2 := HX1.out.next hb2
  obtain ⟨hy0, hy1, hy2, _, _, _⟩ := HX2.three
  have HB2 := Lib.hid (HB1.out.trans (hb2.mono HB1.out.size))
  have HRR := Lib.hid (hrr.out.mono HB1.out.size)
  clear hx0 hx1 hx2 hrr hb2 HX2
  go_wp2_with fail
  refine (HSO.out _ HB2.out).mono ?_; rintro e w3 ⟨p3, c3, rfl, ho3, hb3⟩
  have hz2 := HB2.out.size
  have hz3 := hb3.size
  have hzz : w.heap.size ≤ w3.heap.size := by omega
  have HR3 := Lib.hid (HRR.out.later hb3)
  have HO3 := Lib.hid ho3
  have HB3 := Lib.hid (HB2.out.trans (hb3.mono hz2))
  have hm3 : nr + 1 ≤ maxLen := by unfold maxLen; omega
  have hm4 : (nr + 1) * 24 ≤ 140737488355328 := by omega
  have ho1' : ∀ z ∈ [Value.slice p3 nl c3], z.oneCell' = true := by intro z hz; rw [List.mem_singleton.1 hz]; rfl
  have HO6 := Lib.hid (HR3.out.outer.alloc (.cells #[Value.slice p3 nl c3] 39))
  have HFIN := Lib.hid (fun (p7 : Option Addr) (c7 : Nat) (w7 : World) (hown7 : w7.ownsRow w.heap.size 39 1 (.slice p7 (nr + 1) c7) (nr + 1) (vs ++ [Value.slice p3 nl c3])) (hg7 : (w3.alloc (.cells #[Value.slice p3 nl c3] 39)).grownBy w7 (Value.slice p2 nr c2).ownBlock)
      (hnb7 : (Value.slice p7 (nr + 1) c7).ownBlock = (Value.slice p2 nr c2).ownBlock ∨ (Value.slice p7 (nr + 1) c7).ownBlock = some (w3.alloc (.cells #[Value.slice p3 nl c3] 39)).heap.size) =>
    (show (Calls Try.prog 20 #[.slice p7 (nr + 1) c7] w7 fun e w' => ∃ p' c', e = .returned (.tuple #[.slice p' mn c', .int .i64 0]) ∧ w'.ownsRow w7.heap.size 109 2 (.slice p' mn c') mn (mcs al) ∧ Below w7.heap.size w7 w') ∧ Below w.heap.size w w7 from by
      have hfar : ∀ j, (Value.slice p3 nl c3).ownBlock = some j → (Value.slice p2 nr c2).ownBlock ≠ some j := fun j hj e => by have h1 := (HO3.out.lt j hj).1; have h2 := (HRR.out.outer.lt j e).2; omega
      have hgw7 : w3.grownBy w7 (Value.slice p2 nr c2).ownBlock := ⟨hg7.os, hg7.tape, hg7.output, Nat.le_trans (World.grownBy_alloc w3 _ none).size hg7.size, fun j hj hr => (hg7.block j (Nat.lt_of_lt_of_le hj (World.grownBy_alloc w3 _ none).size) hr).trans ((World.grownBy_alloc w3 _ none).block j hj (by simp))⟩
      have hrr := OwnRR.push HR3.out hgw7 (r := sl) (by rw [HLL.out]; exact own_mono HO3.out hz2) hfar hown7 (by rcases hnb7 with h | h; exact .inl h; exact .inr ⟨_, by simp, h⟩)
      exact ⟨HAL.out _ p7 c7 w7 hrr, HB3.out.grown hgw7 (by omega) (fun j hj => (HR3.out.outer.lt j hj).1)⟩))
  clear ho3 hb3
  go_wp2_with (first
    | (at_builtin; refine wp_app (w0 := w3) rfl (.tmp 23) (.tmp 25) _ rfl w.heap.size 39 rfl inf_mrowD rfl (by decide) rfl HO6.out rfl (news := [Value.slice p3 nl c3]) (sl_new w3 [Value.slice p3 nl c3] 39) ho1' hm3 hm4 ((alloc_below w3 _).mono hzz) (by simp; omega) ?_; intro p7 c7 w7 hown7 hb7 hs7 hg7 hnb7; have HF7 := Lib.hid (HFIN.out p7 c7 w7 hown7 hg7 hnb7); clear hown7 hb7 hs7 hg7 hnb7)
    | (go_at_call 20; refine HF7.out.1.mono ?_; rintro e w8 ⟨p9, c9, rfl, hs9, hb9⟩; have HS9 := Lib.hid hs9; have HB9 := Lib.hid hb9; clear hs9 hb9))
  go_ret2
  exact ⟨p9, c9, rfl, own_mono HS9.out HF7.out.2.size, HF7.out.2.trans (HB9.out.mono HF7.out.2.size)⟩
end Go.Proofs.Ytcaolnpkpialdaa
