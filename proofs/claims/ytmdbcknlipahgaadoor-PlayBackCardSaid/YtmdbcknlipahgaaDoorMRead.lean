/- The walk of play.Read. -/
import Derived.Test.YtmdbcknlipahgaaDoorMRdS
import Derived.Test.YtmdbcknlipahgaaDoorPMove
import Derived.Test.YtmdbcknlipahgaaDoorPLine
namespace Go.Proofs.YtmdbcknlipahgaaDoor
open Go Go.RowKit Go.Shelf Go.Proofs
attribute [local go_sem] Oper.semAt_some
/-- may all lines be read? -/
def allL (s : List UInt8) : Prop := ∀ x ∈ linesL s, goodL x
/-- what Read answers -/
def MReadOk (s : ByteArray) (w : World) (e : Ending) (w' : World) : Prop :=
  ((∃ ev : Int, ev ≠ 0 ∧ e = .returned (.tuple #[.slice none 0 0, .int .i64 ev])) ∧ ¬ (s.size ≤ 5000000 ∧ allL s.data.toList ∧ (linesL s.data.toList).length ≤ 100000)) ∨
  (s.size ≤ 5000000 ∧ allL s.data.toList ∧ (linesL s.data.toList).length ≤ 100000 ∧ ∃ p n c, e = .returned (.tuple #[.slice p n c, .int .i64 0]) ∧ n = (rdM s.data.toList).length ∧ w'.ownsRow w.heap.size 37 3 (.slice p n c) n (ges (rdM s.data.toList)))
theorem mdS_rdM {s : List UInt8} {xs : List ByteArray} (h : xs.map (·.data.toList) = linesL s) : mdS xs = rdM s := by
  unfold mdS rdM
  rw [← h, List.map_map]; rfl
theorem frz_of' {w : World} {b i : Nat} {cs : Array Value} {t : TypeId} (h : w.heap[b]? = some (.cells cs t (0, 0))) : w.frozen? ⟨b, i, none⟩ = false := by simp [World.frozen?, h]
theorem inf_move : (Tryd.prog.info? 37).map (fun i => (i.zero, i.size, i.bytes)) = some (some (.agg #[.int .i64 0, .int .i64 0, .int .i64 0]), 3, 24) := by kernel_rfl
theorem mdI_new (w : World) (s : ByteArray) : MdI w w.heap.size (w.heap.size + 1) (w.heap.size + 1 + 1) ((((w.alloc (.cells #[.slice none 0 0] 35)).alloc (.cells #[.int .i64 0] 25)).alloc (.cells #[.slice none 0 0] 35)).alloc (.cells #[.string s] 9)).heap.size []
    ((((w.alloc (.cells #[.slice none 0 0] 35)).alloc (.cells #[.int .i64 0] 25)).alloc (.cells #[.slice none 0 0] 35)).alloc (.cells #[.string s] 9)) := by
  have a1 := World.alloc_heap_new w (.cells #[.slice none 0 0] 35)
  have a2 := World.alloc_heap_new (w.alloc (.cells #[.slice none 0 0] 35)) (.cells #[.int .i64 0] 25)
  have a3 := World.alloc_heap_new ((w.alloc (.cells #[.slice none 0 0] 35)).alloc (.cells #[.int .i64 0] 25)) (.cells #[.slice none 0 0] 35)
  simp only [World.size_alloc] at a2 a3
  refine ⟨⟨none, 0, 0, ?_, rfl, World.ownsRow_nil _ _ _ _⟩, ?_, ?_, (fun x hx => by cases hx), ?_, Nat.le_refl _⟩
  · exact (Below.heap_alloc _ _ _ (by simp)).trans a3
  · exact (Below.heap_alloc _ _ _ (by simp <;> omega)).trans ((Below.heap_alloc _ _ _ (by simp)).trans a2)
  · exact (Below.heap_alloc _ _ _ (by simp; omega)).trans ((Below.heap_alloc _ _ _ (by simp; omega)).trans ((Below.heap_alloc _ _ _ (by simp)).trans a1))
  · exact ((((Below.refl _ w).alloc (Nat.le_refl _) _).alloc (by simp) _).alloc (by simp; omega) _).alloc (by simp; omega) _
theorem mgrow_low {W w1 : World} {D : Nat} {e : TypeId} {size n : Nat} {v : Value} {xs : List Value} {tmp : Obj} (hrow : W.ownsRow D e size v n xs) (hg : (W.alloc tmp).grownBy w1 v.ownBlock) (k : Nat) (hk : k < D) (hk2 : k < W.heap.size) : w1.heap[k]? = W.heap[k]? := by
  refine (hg.block k (by simp; omega) (fun e => ?_)).trans (Below.heap_alloc _ _ _ hk2)
  rcases hrow.2 with ⟨rfl, _⟩ | ⟨g, cap, cur, rfl, hb, _, _⟩
  · simp [Value.ownBlock] at e
  · have : k = g := by simpa [Value.ownBlock] using e
    omega
set_option maxHeartbeats 4000000 in
set_option maxRecDepth 100000 in
theorem mread_ok (s : ByteArray) (w : World) (ht : Tabs w) (hf : FormsAt w) :
    Calls Tryd.prog 16 #[.string s] w fun e w' => MReadOk s w e w' ∧ Below w.heap.size w w' := by
  refine (callsIn_wide (n := 10)).1 ?_
  refine callsIn_of_wp_marks Tryd.func16 rfl trivial ?_ rfl
  simp only [Tryd.ntmps16, List.size_toArray, List.length_cons, List.length_nil, Nat.reduceAdd, Nat.reduceSub, Array.replicate_succ, Array.replicate_zero, List.push_toArray, List.append_toArray, List.nil_append, List.cons_append]
  by_cases hbig : s.size > 5000000
  · have hd1 : decide ((s.size : Int) > 5000000) = true := decide_eq_true (by omega)
    have hd2 : decide (5000000 < s.size) = true := decide_eq_true (by omega)
    have hd3 : decide ((5000000 : Int) < (s.size : Int)) = true := decide_eq_true (by omega)
    gi_wp2
    refine ⟨.tuple #[.slice none 0 0, .int .i64 1], ?_, .inl ⟨⟨1, by decide, rfl⟩, fun h => by omega⟩, ((Below.refl _ w).alloc (Nat.le_refl _) _).alloc (by simp) _⟩
    rw [results_two rfl]
    go_simp
  · have hd1 : decide ((s.size : Int) > 5000000) = false := decide_eq_false (by omega)
    have hd2 : decide (5000000 < s.size) = false := decide_eq_false (by omega)
    have hd3 : decide ((5000000 : Int) < (s.size : Int)) = false := decide_eq_false (by omega)
    gi_wp2_with (refine ⟨trivial, ?_⟩; gi_at_call 34; refine (callsIn_wide.2 (lines_fn s _)).mono ?_; rintro e w' ⟨rfl, rfl⟩)
    obtain ⟨W0, hW0⟩ : ∃ W0 : World, W0 = ((((w.alloc (.cells #[.slice none 0 0] 35)).alloc (.cells #[.int .i64 0] 25)).alloc (.cells #[.slice none 0 0] 35)).alloc (.cells #[.string s] 9)) := ⟨_, rfl⟩
    have hz0 : W0.heap.size = w.heap.size + 1 + 1 + 1 + 1 := by rw [hW0]; simp
    have hI0 : MdI w w.heap.size (w.heap.size + 1) (w.heap.size + 1 + 1) W0.heap.size [] W0 := by
      rw [hW0]
      exact mdI_new w s
    have hB0 : W0.heap[w.heap.size + 1 + 1 + 1]? = some (.cells #[.string s] 9 (0, 0)) := by
      rw [hW0]
      have := World.alloc_heap_new (((w.alloc (.cells #[.slice none 0 0] 35)).alloc (.cells #[.int .i64 0] 25)).alloc (.cells #[.slice none 0 0] 35)) (.cells #[.string s] 9)
      simpa using this
    rw [← hW0]
    refine wpIn_range_box rfl (by omega) (gf := 56) (b := w.heap.size + 1 + 1 + 1) rfl trivial (enters_of Tryd.func56 (by kernel_rfl) rfl) (lines_seq _ (by omega) s (by omega) _) hB0 rfl
      (MdI w w.heap.size (w.heap.size + 1) (w.heap.size + 1 + 1) W0.heap.size) (MdX w w.heap.size (w.heap.size + 1) (fun pre => ∃ x ∈ pre, x.data.toList ∈ linesL s.data.toList ∧ ¬ goodL x.data.toList)) (MdI.own _ _ _ _ _ _ (by omega)) (MdX.own _ _ _ _ _ (by omega)) (MdI.ab (by omega)) hI0
      (fun x => { tmps := #[.string s, undef, .pointer (some ⟨w.heap.size, 0, none⟩), .pointer (some ⟨w.heap.size + 1, 0, none⟩), .pointer (some ⟨w.heap.size + 1 + 1, 0, none⟩), .string x, undef, undef, undef, .string s, .int .i64 s.size, .bool false, .string s,
        .func (.func 56) #[] #[.pointer (some ⟨w.heap.size + 1 + 1 + 1, 0, none⟩)], .string x, undef, undef, undef, undef, undef, undef, undef, undef, undef, undef, undef, undef, undef, undef, undef, undef, undef, undef, undef, undef, undef, undef], defers := [] }) ?assign ?body ?done ?stop
    case assign =>
      intro l x W K hK
      gi_wp2
      exact hK
    case body =>
      rintro l pre x W hI ⟨post, hS⟩
      have hxm : x.data.toList ∈ linesL s.data.toList := by rw [← hS]; simp
      have hxs : x.size ≤ 5000000 := by
        have := lines_le hxm
        rw [← Lib.size_eq, ← Lib.size_eq] at this; omega
      have HMV := Lib.hid (move_ok x hxs W (ht.later hI.hb) (hf.later hI.hb))
      have HLI := Lib.hid (fun (W' : World) (hW : Below W.heap.size W W') => line_ok (moveM x.data.toList) (moveM_in _) W' ((ht.later hI.hb).later hW) ((hf.later hI.hb).later hW))
      have HI := Lib.hid hI
      have HSS := Lib.hid hS
      have HXM := Lib.hid hxm
      have HMS := Lib.hid (mdS_snoc pre x)
      have hn1 : 1 ≤ 10 - 1 - 1 := by omega
      have hs5 : s.size ≤ 5000000 := by omega
      clear hI hS hI0 hB0 hxs hxm hd1 hd2 hd3 hbig
      obtain ⟨m, hm⟩ : ∃ m, m = moveM x.data.toList := ⟨_, rfl⟩
      have HGD := Lib.hid (show goodL x.data.toList ↔ lineM m = (x.data.toList, 0) from by rw [hm]; rfl)
      rw [← hm] at HMV HLI HMS
      obtain ⟨le, hln⟩ : ∃ le, le = lineM m := ⟨_, rfl⟩
      rw [← hln] at HLI HGD
      obtain ⟨ln, en⟩ := le
      clear hm hln
      obtain ⟨a, b, c⟩ := m
      dsimp only at HMV HLI
      by_cases hgood : ln = x.data.toList ∧ en = 0
      · obtain ⟨rfl, rfl⟩ := hgood
        have HGO := Lib.hid (HGD.out.2 rfl)
        have hne0 : ((0 : Int) != 0) = false := by decide
        have hbx : bs x.data.toList = x := ByteArray.ext (by simp [bs])
        rw [hbx] at HLI
        have hcnt : pre.length ≤ 5000000 := by
          have h2 := lines_many s.data.toList
          rw [← HSS.out, ← Lib.size_eq] at h2
          simp at h2
          omega
        gi_wp2_with (first
          | (refine ⟨trivial, ?_⟩; gi_at_call 37; refine (CallsIn.inRound l (callsIn_wide.2 HMV.out)).mono ?_; rintro e w2 ⟨rfl, hb2⟩; have HB2 := Lib.hid hb2)
          | (refine ⟨trivial, ?_⟩; gi_at_call 36; refine (CallsIn.inRound l (callsIn_wide.2 (HLI.out _ (HB2.out.alloc HB2.out.size _)))).mono ?_; rintro e w4 ⟨rfl, hb4⟩; have HB4 := Lib.hid ((HB2.out.alloc HB2.out.size (.cells #[.int .i64 a, .int .i64 b, .int .i64 c] 37)).trans (hb4.mono (by have := HB2.out.size; simp; omega))); have HI4 := Lib.hid (HI.out.later HB4.out); obtain ⟨hy0, hy1, hy2, _⟩ := ((bx_new w2 [.int .i64 a, .int .i64 b, .int .i64 c] 37).next hb4).three; obtain ⟨pg, ng, cg, hgr, hng, hrow⟩ := HI4.out.hg; have hcg := cell_of_row w4 (w.heap.size + 1 + 1) 0 _ _ _ hgr; have hng2 : ng ≤ 5000000 := (by rw [hng, mdS_len]; exact hcnt); have HML := Lib.hid (show ng + 1 ≤ maxLen from by unfold maxLen; omega); have HBY := Lib.hid (show (ng + 1) * 24 ≤ 140737488355328 from by omega); have H1C := Lib.hid (show ∀ u ∈ [Value.int .i64 a, .int .i64 b, .int .i64 c], u.oneCell' = true from by simp [Value.oneCell']); have H03 := Lib.hid (show 0 < 3 from by decide); have HBA := Lib.hid ((Below.refl W0.heap.size (w4.alloc (.cells #[.int .i64 a, .int .i64 b, .int .i64 c] 37)))); have HSA := Lib.hid (show W0.heap.size ≤ (w4.alloc (.cells #[.int .i64 a, .int .i64 b, .int .i64 c] 37)).heap.size from by rw [World.size_alloc]; exact Nat.le_succ_of_le HI4.out.hd); have HNG := Lib.hid hng; have HRW := Lib.hid hrow; have HGR := Lib.hid hgr; clear hng hrow hgr)
          | (gi_at_builtin; go_loud (refine wp_app_in (w0 := w4.alloc (.cells #[.int .i64 a, .int .i64 b, .int .i64 c] 37)) rfl (.tmp 29) (.tmp 31) _ rfl W0.heap.size 37 Tryd.underlying35 inf_move rfl H03.out rfl (HRW.out.alloc _) rfl (sl_new w4 [.int .i64 a, .int .i64 b, .int .i64 c] 37) H1C.out HML.out HBY.out HBA.out HSA.out ?_); go_loud (intro q1 d1 w7 hown7 _ hs7 hg7; have hbg := mgrow_low HRW.out hg7 (w.heap.size + 1 + 1) (by omega) (by have := HI4.out.hd; omega); have hqf0 := frz_of' (i := 0) (hbg.trans HGR.out); have hqc0 := (World.cell?_of_block (a := ⟨w.heap.size + 1 + 1, 0, none⟩) hbg).trans hcg; have HO7 := Lib.hid hown7; have HG7 := Lib.hid hg7; clear hown7 hg7 hbg)))
        have hbW : w.heap.size + 1 + 1 + 1 < W.heap.size := by have := HI.out.hd; omega
        have hbW4 : w.heap.size + 1 + 1 + 1 < w4.heap.size := Nat.lt_of_lt_of_le hbW HB4.out.size
        have hmo := HI4.out.more (pre' := pre ++ [x]) ⟨by omega, by omega⟩ (by omega) ⟨by omega, by omega⟩ (by omega) HGR.out HNG.out HRW.out HO7.out HG7.out HMS.out (fun y hy => by
          rcases List.mem_append.1 hy with hy | hy
          · exact HI4.out.ok y hy
          · rw [List.mem_singleton] at hy; subst hy; exact HGO.out)
        exact ⟨(keeps_below HB4.out).trans ⟨hmo.2.size, hmo.2.same⟩, (Below.heap_setCell _ _ _ _ (by show w.heap.size + 1 + 1 + 1 ≠ w.heap.size + 1 + 1; omega)).trans ((mgrow_low HRW.out HG7.out (w.heap.size + 1 + 1 + 1) (by omega) hbW4).trans (HB4.out.block _ hbW)), hmo.1⟩
      · have HNG := Lib.hid (show ¬ goodL x.data.toList from fun h => hgood (by have := HGD.out.1 h; cases this; exact ⟨rfl, rfl⟩))
        by_cases he0 : en = 0
        · subst he0
          have hne0 : ((0 : Int) != 0) = false := by decide
          have hbx : ((bs ln).toList == x.toList) = false := by rw [beq_eq_false_iff_ne, ByteArray.toList_eq, ByteArray.toList_eq, bs_list]; exact fun h => hgood ⟨h, rfl⟩
          have hbx2 : ((bs ln).toList != x.toList) = true := by simp only [bne, hbx]; rfl
          clear hgood
          gi_wp2_with (first
            | (refine ⟨trivial, ?_⟩; gi_at_call 37; refine (CallsIn.inRound l (callsIn_wide.2 HMV.out)).mono ?_; rintro e w2 ⟨rfl, hb2⟩; have HB2 := Lib.hid hb2)
            | (refine ⟨trivial, ?_⟩; gi_at_call 36; refine (CallsIn.inRound l (callsIn_wide.2 (HLI.out _ (HB2.out.alloc HB2.out.size _)))).mono ?_; rintro e w4 ⟨rfl, hb4⟩; have HB4 := Lib.hid ((HB2.out.alloc HB2.out.size (.cells #[.int .i64 a, .int .i64 b, .int .i64 c] 37)).trans (hb4.mono (by have := HB2.out.size; simp; omega))); have HI4 := Lib.hid (HI.out.later HB4.out); have hcr := cell_of_row w4 w.heap.size 0 _ _ _ HI4.out.hr; have hce := cell_of_row w4 (w.heap.size + 1) 0 _ _ _ HI4.out.he; have hfr := frz_of' (i := 0) HI4.out.hr; have hfe := frz_of' (i := 0) HI4.out.he))
          refine ⟨(keeps_below HB4.out).trans ((KeepsFrom.of_grownBy grown_set (fun j e => by cases e; omega)).trans (KeepsFrom.of_grownBy grown_set (fun j e => by cases e; omega))), HI4.out.bad ⟨x, by simp, HXM.out, HNG.out⟩ (by omega) (by omega) (by omega)⟩
        · have hne0 : (en != 0) = true := by simpa using he0
          clear hgood he0
          gi_wp2_with (first
            | (refine ⟨trivial, ?_⟩; gi_at_call 37; refine (CallsIn.inRound l (callsIn_wide.2 HMV.out)).mono ?_; rintro e w2 ⟨rfl, hb2⟩; have HB2 := Lib.hid hb2)
            | (refine ⟨trivial, ?_⟩; gi_at_call 36; refine (CallsIn.inRound l (callsIn_wide.2 (HLI.out _ (HB2.out.alloc HB2.out.size _)))).mono ?_; rintro e w4 ⟨rfl, hb4⟩; have HB4 := Lib.hid ((HB2.out.alloc HB2.out.size (.cells #[.int .i64 a, .int .i64 b, .int .i64 c] 37)).trans (hb4.mono (by have := HB2.out.size; simp; omega))); have HI4 := Lib.hid (HI.out.later HB4.out); have hcr := cell_of_row w4 w.heap.size 0 _ _ _ HI4.out.hr; have hce := cell_of_row w4 (w.heap.size + 1) 0 _ _ _ HI4.out.he; have hfr := frz_of' (i := 0) HI4.out.hr; have hfe := frz_of' (i := 0) HI4.out.he))
          refine ⟨(keeps_below HB4.out).trans ((KeepsFrom.of_grownBy grown_set (fun j e => by cases e; omega)).trans (KeepsFrom.of_grownBy grown_set (fun j e => by cases e; omega))), HI4.out.bad ⟨x, by simp, HXM.out, HNG.out⟩ (by omega) (by omega) (by omega)⟩
    case done =>
      rintro D xs W hD hS hI hK
      obtain ⟨pg, ng, cg, hgr, hng, hrow⟩ := hI.hg
      have hmd := mdS_rdM hS
      have hcl : ng = (linesL s.data.toList).length := by rw [hng, mdS_len, ← hS, List.length_map]
      have hall : allL s.data.toList := fun y hy => by
        rw [← hS] at hy
        obtain ⟨z, hz, rfl⟩ := List.mem_map.1 hy
        exact hI.ok z hz
      rw [hmd] at hng hrow
      have hcg := cell_of_row W (w.heap.size + 1 + 1) 0 _ _ _ hgr
      have hcr := cell_of_row W w.heap.size 0 _ _ _ hI.hr
      have hce := cell_of_row W (w.heap.size + 1) 0 _ _ _ hI.he
      have hfr := frz_of' (i := 0) hI.hr
      have hfe := frz_of' (i := 0) hI.he
      have HNG := Lib.hid hng
      have HRW := Lib.hid hrow
      have HI := Lib.hid hI
      have HK := Lib.hid hK
      have HCL := Lib.hid hcl
      have HAL := Lib.hid hall
      have hKD : ∀ u v, ((W.setCell ⟨w.heap.size, 0, none⟩ u).setCell ⟨w.heap.size + 1, 0, none⟩ v).heap[D]? = some (.deferred (some [])) := fun u v => (Below.heap_setCell _ _ _ D (by show D ≠ w.heap.size + 1; omega)).trans ((Below.heap_setCell _ _ _ D (by show D ≠ w.heap.size; omega)).trans HK.out)
      have HKD := Lib.hid hKD
      clear hS hI hK hgr hng hrow hI0 hB0 hmd hcl hall hd1 hd2 hd3 hKD
      by_cases hbn : ng > 100000
      · have hd1 : decide ((ng : Int) > 100000) = true := decide_eq_true (by omega)
        have hd2 : decide (100000 < ng) = true := decide_eq_true (by omega)
        have hd3 : decide ((100000 : Int) < (ng : Int)) = true := decide_eq_true (by omega)
        gi_wp2
        refine ⟨by simp, .inl ⟨_, _, rfl, run_takeDeferred (HKD.out _ _), ?_⟩⟩
        obtain ⟨hf0, hf1, hfb, hfo⟩ := end_two (u := .slice none 0 0) (v := .int .i64 1) HI.out.hr HI.out.he (by omega) (Nat.le_refl _) (by omega) (by omega) (by omega) HI.out.hb (HKD.out _ _)
        refine ⟨.tuple #[.slice none 0 0, .int .i64 1], ?_, .inl ⟨⟨1, by decide, rfl⟩, fun h => by have := HCL.out; omega⟩, hfb⟩
        rw [results_two rfl]
        go_simp
      · have hd1 : decide ((ng : Int) > 100000) = false := decide_eq_false (by omega)
        have hd2 : decide (100000 < ng) = false := decide_eq_false (by omega)
        have hd3 : decide ((100000 : Int) < (ng : Int)) = false := decide_eq_false (by omega)
        gi_wp2
        refine ⟨by simp, .inl ⟨_, _, rfl, run_takeDeferred (HKD.out _ _), ?_⟩⟩
        obtain ⟨hf0, hf1, hfb, hfo⟩ := end_two (u := .slice pg ng cg) (v := .int .i64 0) HI.out.hr HI.out.he (by omega) (Nat.le_refl _) (by omega) (by omega) (by omega) HI.out.hb (HKD.out _ _)
        refine ⟨.tuple #[.slice pg ng cg, .int .i64 0], ?_, .inr ⟨by omega, HAL.out, by have := HCL.out; omega, pg, ng, cg, rfl, HNG.out, own_mono (hfo _ _ _ _ _ _ _ (by omega) (by omega) HRW.out) (by omega)⟩, hfb⟩
        rw [results_two rfl]
        go_simp
    case stop =>
      rintro D pre W hD hX hK
      have HX := Lib.hid hX
      have HK := Lib.hid hK
      clear hX hI0 hB0 hd1 hd2 hd3
      gi_wp2
      refine ⟨by simp, .inl ⟨_, _, rfl, run_takeDeferred HK.out, ?_⟩⟩
      have er : (W.putObj D (.deferred none)).heap[w.heap.size]? = _ := (World.putObj_heap_other (by omega)).trans HX.out.hr
      have ee : (W.putObj D (.deferred none)).heap[w.heap.size + 1]? = _ := (World.putObj_heap_other (by omega)).trans HX.out.he
      have hcr := cell_of_row _ w.heap.size 0 _ _ _ er
      have hce := cell_of_row _ (w.heap.size + 1) 0 _ _ _ ee
      clear er ee
      refine ⟨.tuple #[.slice none 0 0, .int .i64 3], ?_, .inl ⟨⟨3, by decide, rfl⟩, fun h => ?_⟩, HX.out.hb.grown (grownBy_putObj' _ D _) HX.out.hb.size (fun k e => by cases e; omega)⟩
      · rw [results_two rfl]
        go_simp
      · obtain ⟨x, _, hx, hg⟩ := HX.out.bad
        exact hg (h.2.1 _ hx)
end Go.Proofs.YtmdbcknlipahgaaDoor
