/- The walk of the law DistTight. -/
import Derived.Test.YtcaolnpkpialdaaReach
import Derived.Test.YtcaolnpkpialdaaDist
namespace Go.Proofs.Ytcaolnpkpialdaa
open Go.RowKit
theorem own_boolD {w : World} {B g N x : Nat} {s : List Bool} {b : Bool} (h : w.ownsRow B 4 1 (.slice (some ⟨g, 0, none⟩) N N) N (bls s)) (hx : x < N) (hb : s[x]? = some b) : w.cell? ⟨g, x, none⟩ = some (.bool b) := by
  rw [h.cellAt x (by omega), bls_at hb]
open Classical in
theorem reach_cellD {w : World} {B g N x v : Nat} {E : List Eg} (h : w.ownsRow B 4 1 (.slice (some ⟨g, 0, none⟩) N N) N (bls (reachL N E v))) (hx : x < N) : (Rch E v x → w.cell? ⟨g, x, none⟩ = some (.bool true)) ∧ (¬ Rch E v x → w.cell? ⟨g, x, none⟩ = some (.bool false)) := by
  refine ⟨fun hr => ?_, fun hr => ?_⟩
  · exact own_boolD h hx ((reachL_at hx).2 hr)
  · refine own_boolD h hx ?_
    rw [reachL_get hx, decide_eq_false hr]
theorem far_cell {w : World} {B g N x : Nat} {far : List Nat} (h : w.ownsRow B 3 1 (.slice (some ⟨g, 0, none⟩) N N) N (fds far)) (hl : far.length = N) (hx : x < N) : (fv far x = 0 → w.cell? ⟨g, x, none⟩ = some (.int .i64 (-1))) ∧ (∀ d, fv far x = d + 1 → w.cell? ⟨g, x, none⟩ = some (.int .i64 (d : Int))) := by
  have hc := h.cellAt x (by omega)
  rw [fds_at (by omega)] at hc
  refine ⟨fun h0 => ?_, fun d hd => ?_⟩
  · rw [hc, h0]; rfl
  · rw [hc, hd]; congr 2; omega
/-- who is known to be told by an edge -/
structure HadD (E : List Eg) (far : List Nat) (V N : Nat) (hs : List Bool) (i : Nat) : Prop where
  len : hs.length = N
  src : hs[V]? = some true
  edge : ∀ j, j < i → ∀ x y w, E[j]? = some (x, y, w) → fv far x ≠ 0 → fv far y = fv far x + w → hs[y]? = some true
theorem HadD.skip {E : List Eg} {far : List Nat} {V N i x y w : Nat} {hs : List Bool} (h : HadD E far V N hs i) (he : E[i]? = some (x, y, w)) (h0 : fv far x = 0) : HadD E far V N hs (i + 1) := by
  refine ⟨h.len, h.src, fun j hj a b c hab hf heq => ?_⟩
  by_cases hji : j = i
  · subst hji
    rw [he] at hab
    cases hab
    exact absurd h0 hf
  · exact h.edge j (by omega) a b c hab hf heq
theorem HadD.step {E : List Eg} {far : List Nat} {V N i x y w : Nat} {hs : List Bool} {b b' : Bool} (h : HadD E far V N hs i) (he : E[i]? = some (x, y, w)) (hy : hs[y]? = some b) (h1 : b = true → b' = true) (h2 : fv far y = fv far x + w → b' = true) : HadD E far V N (hs.set y b') (i + 1) := by
  have hyl := (List.getElem?_eq_some_iff.1 hy).1
  have hk : ∀ z, hs[z]? = some true → (hs.set y b')[z]? = some true := fun z hz => by
    rw [List.getElem?_set]
    split
    · rename_i e
      subst e
      rw [hy] at hz
      rw [h1 (Option.some.inj hz)]
    · exact hz
  refine ⟨by rw [List.length_set]; exact h.len, hk _ h.src, fun j hj a b c hab hf heq => ?_⟩
  by_cases hji : j = i
  · subst hji
    rw [he] at hab
    cases hab
    rw [List.getElem?_set, if_pos rfl, if_pos hyl, h2 heq]
  · exact hk _ (h.edge j (by omega) a b c hab hf heq)
theorem HadD.all {E : List Eg} {far : List Nat} {V N v : Nat} {hs : List Bool} (h : HadD E far V N hs E.length) (ht : Told E V far) (hr : Rch E V v) : hs[v]? = some true := by
  rcases ht.had v ((ht.rch v).2 hr) with rfl | ⟨x, w, he, hx, heq⟩
  · exact h.src
  · obtain ⟨j, hj, hjx⟩ := List.mem_iff_getElem.1 he
    exact h.edge j hj x v w (by rw [List.getElem?_eq_getElem hj, hjx]) hx heq
set_option maxHeartbeats 8000000 in
set_option maxRecDepth 100000 in
theorem distTight_walk (w : World) (a0 : Int) (ha0 : -9223372036854775808 ≤ a0) (ha1 : a0 ≤ 9223372036854775807) (v1 : Value) (l1 : List (List Int)) (h1 : IsR 3 w v1 l1) (a2 : Int) (ha2 : -9223372036854775808 ≤ a2) (ha3 : a2 ≤ 9223372036854775807) :
    Calls Try.prog 3 #[.int .i64 a0, v1, .int .i64 a2] w fun e w' => e = .returned (.bool true) ∧ Below w.heap.size w w' := by
  obtain ⟨p1, c1, rfl⟩ := h1.val
  have HM := Lib.hid (made_ok a0 p1 c1 _ l1 8 w ha0 ha1 h1 (by omega) (by omega))
  have hpk := pickN_lt a0 (m := 8) (by decide)
  clear h1 ha0 ha1
  obtain ⟨N, hN⟩ : ∃ N, N = 1 + pickN a0 8 := ⟨_, rfl⟩
  rw [← hN] at HM
  have hN200 : N ≤ 200 := by omega
  have hN1 : 1 ≤ N := by omega
  have hG := Lib.hid (edgesL_in N l1 (by omega))
  have hn10 := edgesL_len N l1
  clear hN hpk
  generalize edgesL N l1 = E at *
  obtain ⟨n, hn⟩ : ∃ n, n = E.length := ⟨_, rfl⟩
  rw [← hn] at HM hn10
  have HN := Lib.hid hn
  clear hn
  have HPV := Lib.hid (fun W => picked_i a2 (N : Int) N W rfl ha2 ha3 hN1 (by omega))
  have hV := pickN_lt a2 hN1
  generalize pickN a2 N = V at *
  clear ha2 ha3
  go_enter Try.func3, Try.ntmps3
  go_wp2_with fail
  refine HM.out.mono ?_; rintro e w1 ⟨q1, d1, rfl, ho1, hb1⟩
  have HS1 := Lib.hid (Sl.of_own ho1)
  have hz1 := hb1.size
  clear ho1
  go_wp2_with (go_at_call 15; refine (HPV.out _).mono ?_; rintro e w' ⟨rfl, rfl⟩)
  refine (distP_ok N n d1 V q1 E _ (HS1.out.later (alloc_below w1 _)) hG.out hN200 (by omega) hV).mono ?_; rintro e w2 ⟨gf, far, rfl, ho2, hfl, htold, hfb, hb2⟩
  obtain ⟨b12, X7, hz2⟩ := boxed (cs := [.int .i64 (N : Int), .slice q1 n d1]) hb2
  have HS2 := Lib.hid (HS1.out.later b12)
  have hbw := hb1.trans (b12.mono hz1)
  have hlen := HS2.out.elen.2
  obtain ⟨hnd, hd63⟩ := hlen
  have HX7 := Lib.hid X7
  have HFO := Lib.hid (own_mono ho2 (Nat.zero_le _))
  have HT := Lib.hid htold
  have HFB := Lib.hid hfb
  obtain ⟨hy0, hy1, _, _⟩ := X7.two
  clear ho2 X7 hb1 b12 hb2 htold hfb
  go_wp2_with fail
  clear hy0 hy1
  refine (reachP_ok N n d1 V q1 E w2 HS2.out hG.out hN200 (by omega) hV).mono ?_; rintro e w3 ⟨ga, rfl, ho3, hb3⟩
  have HS3 := Lib.hid (HS2.out.later hb3)
  have HX3 := Lib.hid (HX7.out.next hb3)
  have HF3 := Lib.hid (own_later HFO.out hb3)
  have HA3 := Lib.hid ho3
  have hbw3 := hbw.trans (hb3.mono hbw.size)
  obtain ⟨hy0, hy1, _, _⟩ := HX3.out.two
  have hcV := (far_cell HF3.out hfl hV).2 0 HT.out.src
  have hV0 : (0 : Int) ≤ (V : Int) := by omega
  have hVN : (V : Int) < (N : Int) := by omega
  have he1 : ((N : Int) != (N : Int)) = false := by simp
  clear ho3 hb3 HX7 HFO HS2 hbw
  obtain ⟨i0, hi, hj0, hj1, hj2⟩ := info_parts inf_bool
  obtain ⟨wm, hrun, hom, hgm⟩ := run_make_full (P := Try.prog) w3 w3.heap.size 32 4 i0 (.bool false) 1 rfl hi hj0 hj1 .i64 .i64 N (by rw [hj2]; omega) (by unfold maxLen; omega) (Nat.le_refl _)
  have hbm := (Below.refl w3.heap.size w3).grown hgm (Nat.le_refl _) (fun k hk => by cases hk)
  have hom2 : wm.ownsRow w3.heap.size 4 1 (.slice (some ⟨w3.heap.size, 0, none⟩) N N) N (bls (List.replicate N false)) := by
    rw [bls_rep, ← toList_madeCells_one]
    rw [Nat.mul_one] at hom
    exact hom
  have hvc := hom2.cellAt V (by omega)
  rw [bls_at (b := false) (by rw [List.getElem?_replicate, if_pos hV])] at hvc
  have hvf := hom2.frozenAt V
  have hs1 := (hom2.stored V (.bool true)).1
  rw [← bls_set] at hs1
  have hbS : Below w3.heap.size w3 (wm.setCell ⟨w3.heap.size, V, none⟩ (.bool true)) := hbm.setCell (by show w3.heap.size ≤ w3.heap.size; omega) _
  have hH0 : HadD E far V N ((List.replicate N false).set V true) 0 := ⟨by simp, by rw [List.getElem?_set, if_pos rfl, if_pos (by simpa using hV)], fun j hj => absurd hj (Nat.not_lt_zero j)⟩
  clear hom hgm hi hj0 hj1 hj2
  go_wp2_with fail
  clear hy0 hy1 hcV hV0 hVN he1 hrun hvc hvf hom2 hbm
  go_loopg [14, 15, 16] n (fun gk v14 v15 v16 wr => ∃ (i : Nat) (hs : List Bool), v14 = .int .i64 (i : Int) ∧ i + gk = n ∧ Hid (HadD E far V N hs i) ∧ wr.ownsRow w3.heap.size 4 1 (.slice (some ⟨w3.heap.size, 0, none⟩) N N) N (bls hs) ∧ Below w3.heap.size w3 wr)
  case atStart => exact ⟨0, _, rfl, by omega, Lib.hid hH0, hs1, hbS⟩
  case round =>
    clear hH0 hs1 hbS
    obtain ⟨i, hs, rfl, hgi, HH, ho, hb⟩ := hrel
    have HGI := Lib.hid hgi
    have hi : i ≤ n := by omega
    clear hgi
    have hzz := hb.size
    have hhw : w3.heap.size < wr.heap.size := (ho.lt _ rfl).2
    obtain ⟨hy0, hy1, _, _⟩ := (HX3.out.next hb).two
    by_cases hil : i < n
    · have hil2 : i < E.length := by have := HN.out; omega
      have hmem := List.getElem_mem hil2
      have hin := hG.out _ hmem
      have hei : E[i]? = some E[i] := List.getElem?_eq_getElem hil2
      obtain ⟨b, off, rfl, hc0, hc1, hc2⟩ := (HS3.out.later hb).edge hil2
      generalize E[i] = x at hin hmem hei hc0 hc1 hc2
      obtain ⟨x1, x2, x3⟩ := x
      dsimp only at hin hc0 hc1 hc2
      obtain ⟨hx1, hx2, hx3⟩ := hin
      have HEI := Lib.hid hei
      have hcl := HFB.out x1
      have hTE := HT.out.edge x1 x2 x3 hmem
      have HF8 := Lib.hid (own_later HF3.out hb)
      clear hmem hei
      have hi0 : (0 : Int) ≤ (i : Int) := by omega
      have hin' : (i : Int) < (n : Int) := by omega
      have hd3' : decide ((i : Int) < (n : Int)) = true := by simp; omega
      have hd4' : decide (i < n) = true := by simp; omega
      have hx10 : (0 : Int) ≤ (x1 : Int) := by omega
      have hx1N : (x1 : Int) < (N : Int) := by omega
      have hx20 : (0 : Int) ≤ (x2 : Int) := by omega
      have hx2N : (x2 : Int) < (N : Int) := by omega
      have hob := ho.alloc (.cells #[.int .i64 (x1 : Int), .int .i64 (x2 : Int), .int .i64 (x3 : Int)] 36)
      have hbb0 : Below w3.heap.size w3 (wr.alloc (.cells #[.int .i64 (x1 : Int), .int .i64 (x2 : Int), .int .i64 (x3 : Int)] 36)) := hb.alloc hzz _
      have HB0 := Lib.hid (bx_new wr [.int .i64 (x1 : Int), .int .i64 (x2 : Int), .int .i64 (x3 : Int)] 36)
      have HF9 := Lib.hid (show (wr.alloc (.cells #[.int .i64 (x1 : Int), .int .i64 (x2 : Int), .int .i64 (x3 : Int)] 36)).ownsRow 0 3 1 (.slice (some ⟨gf, 0, none⟩) N N) N (fds far) from HF8.out.alloc _)
      go_upto_region 13 with fail
      clear hc0 hc1 hc2 hy0 hy1 ho hb HF8
      obtain ⟨gx, hgx⟩ : ∃ gx, gx = wr.heap.size := ⟨_, rfl⟩
      have hgx3 : gx ≠ w3.heap.size := by omega
      have HGX := Lib.hid hgx
      rw [← hgx] at HB0 ⊢
      clear hgx
      obtain ⟨hb0x, hb1x, hb2x, _, _, _⟩ := HB0.out.three
      generalize (wr.alloc (.cells #[.int .i64 (x1 : Int), .int .i64 (x2 : Int), .int .i64 (x3 : Int)] 36)) = wa at *
      by_cases hf : fv far x1 = 0
      · have hca := (far_cell HF9.out hfl hx1).1 hf
        have HH2 := HH.out.skip HEI.out hf
        clear hTE
        go_wp2_with fail
        go_roundg (n - (i + 1))
        case measure => have := HGI.out; omega
        case rel => exact ⟨i + 1, _, by go_num, by omega, Lib.hid HH2, hob, hbb0⟩
      · obtain ⟨hy2, hy3⟩ := hTE hf
        obtain ⟨dx, hdx⟩ : ∃ d, fv far x1 = d + 1 := ⟨fv far x1 - 1, by omega⟩
        obtain ⟨dy, hdy⟩ : ∃ d, fv far x2 = d + 1 := ⟨fv far x2 - 1, by omega⟩
        have hca := (far_cell HF9.out hfl hx1).2 dx hdx
        have hcb := (far_cell HF9.out hfl hx2).2 dy hdy
        clear hf hTE
        have hdl : dx ≤ 10000 := by have := HN.out; omega
        have hwr : IntKind.i64.wrap ((dx : Int) + (x3 : Int)) = ((dx + x3 : Nat) : Int) := by rw [show (dx : Int) + (x3 : Int) = ((dx + x3 : Nat) : Int) by omega]; exact IntWalk.i64_in _ (by omega)
        have hnz1 : decide ((dx : Int) < 0) = false := by simp; try omega
        have hnz2 : decide ((dy : Int) < 0) = false := by simp; try omega
        have hnz3 : decide (((dx + x3 : Nat) : Int) < (dy : Int)) = false := by simp; omega
        have hnz4 : decide ((dx : Int) + (x3 : Int) < (dy : Int)) = false := by simp; omega
        go_upto_region 14 with fail
        go_quiet (fail)
        go_upto_region 15 with fail
        have hbq : Below wa.heap.size wa (wa.drewN nq) := below_drewN (Below.refl _ _) _
        have HB8 := Lib.hid (HB0.out.next hbq)
        have ho8 := own_later hob hbq
        have HF10 := Lib.hid (own_later HF9.out hbq)
        have hb8 := hbb0.trans (hbq.mono hbb0.size)
        clear hb0x hb1x hb2x hca hcb hob hbb0 hbq HB0 HF9
        generalize wa.drewN nq = wq at *
        obtain ⟨hb0x, hb1x, hb2x, _, _, _⟩ := HB8.out.three
        have hcy := (far_cell HF10.out hfl hx2).2 dy hdy
        go_upto_region 17 with fail
        have hfh := ho8.frozenAt x2
        have hch := ho8.cellAt x2 (by omega)
        obtain ⟨bb, hbb⟩ : ∃ bb, hs[x2]? = some bb := ⟨_, List.getElem?_eq_getElem (by rw [HH.out.len]; exact hx2)⟩
        rw [bls_at hbb] at hch
        cases bb
        · skip
          have hcd : wq.drew.cell? ⟨w3.heap.size, x2, none⟩ = some (.bool false) := hch
          have hfd : wq.drew.frozen? ⟨w3.heap.size, x2, none⟩ = false := hfh
          obtain ⟨S, hSI⟩ : ∃ S : World → Prop, ∀ w', S w' ↔ (w'.cell? ⟨gx, 1, none⟩ = some (.int .i64 (x2 : Int)) ∧ w'.cell? ⟨w3.heap.size, x2, none⟩ = some (.bool false) ∧ w'.cell? ⟨gf, x2, none⟩ = some (.int .i64 (dy : Int))) := ⟨fun w' => _, fun w' => Iff.rfl⟩
          have HSI := Lib.hid hSI
          clear hSI
          refine wp_region_L S 18 (by kernel_rfl) ((HSI.out _).2 ⟨hb1x, hch, hcy⟩) (fun hS => ?_)
          refine wpAnyL_take 0 (v := ?_) rfl rfl (by kernel_rfl) (by kernel_rfl) (by kernel_rfl) (by kernel_rfl) (fun _ _ _ h => h) (Or.inl ⟨by rfl, ?_⟩) hS ?_; rotate_left; · intro w hSw; go_simp <;> with_reducible rfl
          try simp only [Act.put, List.setIfInBounds_toArray, List.set_cons_zero, List.set_cons_succ]
          refine wpAnyL_take 1 (v := ?_) rfl rfl (by kernel_rfl) (by kernel_rfl) (by kernel_rfl) (by kernel_rfl) (fun _ _ _ h => h) (Or.inl ⟨by rfl, ?_⟩) hS ?_; rotate_left; · intro w hSw; go_simp <;> with_reducible rfl
          try simp only [Act.put, List.setIfInBounds_toArray, List.set_cons_zero, List.set_cons_succ]
          refine wpAnyL_take 2 (v := ?_) rfl rfl (by kernel_rfl) (by kernel_rfl) (by kernel_rfl) (by kernel_rfl) (fun _ _ _ h => h) (Or.inl ⟨by rfl, ?_⟩) hS ?_; rotate_left; · intro w hSw; obtain ⟨hz0, hz1, hz2⟩ := (HSI.out w).1 hSw; go_simp <;> with_reducible rfl
          try simp only [Act.put, List.setIfInBounds_toArray, List.set_cons_zero, List.set_cons_succ]
          refine wpAnyL_take 3 (v := ?_) rfl rfl (by kernel_rfl) (by kernel_rfl) (by kernel_rfl) (by kernel_rfl) (fun _ _ _ h => h) (Or.inl ⟨by rfl, ?_⟩) hS ?_; rotate_left; · intro w hSw; go_simp <;> with_reducible rfl
          try simp only [Act.put, List.setIfInBounds_toArray, List.set_cons_zero, List.set_cons_succ]
          refine wpAnyL_take 4 (v := ?_) rfl rfl (by kernel_rfl) (by kernel_rfl) (by kernel_rfl) (by kernel_rfl) (fun _ _ _ h => h) (Or.inl ⟨by rfl, ?_⟩) hS ?_; rotate_left; · intro w hSw; go_simp <;> with_reducible rfl
          try simp only [Act.put, List.setIfInBounds_toArray, List.set_cons_zero, List.set_cons_succ]
          refine wpAnyL_take 5 (v := ?_) rfl rfl (by kernel_rfl) (by kernel_rfl) (by kernel_rfl) (by kernel_rfl) (fun _ _ _ h => h) (Or.inl ⟨by rfl, ?_⟩) hS ?_; rotate_left; · intro w hSw; obtain ⟨hz0, hz1, hz2⟩ := (HSI.out w).1 hSw; go_simp <;> with_reducible rfl
          try simp only [Act.put, List.setIfInBounds_toArray, List.set_cons_zero, List.set_cons_succ]
          refine wpAnyL_take 6 (v := ?_) rfl rfl (by kernel_rfl) (by kernel_rfl) (by kernel_rfl) (by kernel_rfl) (fun _ _ _ h => h) (Or.inl ⟨by rfl, ?_⟩) hS ?_; rotate_left; · intro w hSw; go_simp <;> with_reducible rfl
          try simp only [Act.put, List.setIfInBounds_toArray, List.set_cons_zero, List.set_cons_succ]
          refine wpAnyL_take 7 (v := ?_) rfl rfl (by kernel_rfl) (by kernel_rfl) (by kernel_rfl) (by kernel_rfl) (fun _ _ _ h => h) (Or.inl ⟨by rfl, ?_⟩) hS ?_; rotate_left; · intro w hSw; obtain ⟨hz0, hz1, hz2⟩ := (HSI.out w).1 hSw; go_simp <;> with_reducible rfl
          try simp only [Act.put, List.setIfInBounds_toArray, List.set_cons_zero, List.set_cons_succ]
          refine wpAnyL_take 8 (v := ?_) rfl rfl (by kernel_rfl) (by kernel_rfl) (by kernel_rfl) (by kernel_rfl) (fun _ _ _ h => h) (Or.inl ⟨by rfl, ?_⟩) hS ?_; rotate_left; · intro w hSw; go_simp <;> with_reducible rfl
          try simp only [Act.put, List.setIfInBounds_toArray, List.set_cons_zero, List.set_cons_succ]
          refine wpAnyL_take 9 (v := ?_) rfl rfl (by kernel_rfl) (by kernel_rfl) (by kernel_rfl) (by kernel_rfl) (fun _ _ _ h => h) (Or.inl ⟨by rfl, ?_⟩) hS ?_; rotate_left; · intro w hSw; go_simp <;> with_reducible rfl
          try simp only [Act.put, List.setIfInBounds_toArray, List.set_cons_zero, List.set_cons_succ]
          refine wpAnyL_take 10 (v := ?_) rfl rfl (by kernel_rfl) (by kernel_rfl) (by kernel_rfl) (by kernel_rfl) (fun _ _ _ h => h) (Or.inl ⟨by rfl, ?_⟩) hS ?_; rotate_left; · intro w hSw; go_simp <;> with_reducible rfl
          try simp only [Act.put, List.setIfInBounds_toArray, List.set_cons_zero, List.set_cons_succ]
          refine wpAnyL_take 11 (v := ?_) rfl rfl (by kernel_rfl) (by kernel_rfl) (by kernel_rfl) (by kernel_rfl) (fun _ _ _ h => h) (Or.inl ⟨by rfl, ?_⟩) hS ?_; rotate_left; · intro w hSw; obtain ⟨hz0, hz1, hz2⟩ := (HSI.out w).1 hSw; go_simp <;> with_reducible rfl
          try simp only [Act.put, List.setIfInBounds_toArray, List.set_cons_zero, List.set_cons_succ]
          refine wpAnyL_take 12 (v := ?_) rfl rfl (by kernel_rfl) (by kernel_rfl) (by kernel_rfl) (by kernel_rfl) (fun _ _ _ h => h) (Or.inl ⟨by rfl, ?_⟩) hS ?_; rotate_left; · intro w hSw; go_simp <;> with_reducible rfl
          try simp only [Act.put, List.setIfInBounds_toArray, List.set_cons_zero, List.set_cons_succ]
          refine wpAnyL_take 13 (v := ?_) rfl rfl (by kernel_rfl) (by kernel_rfl) (by kernel_rfl) (by kernel_rfl) (fun _ _ _ h => h) (Or.inl ⟨by rfl, ?_⟩) hS ?_; rotate_left; · intro w hSw; obtain ⟨hz0, hz1, hz2⟩ := (HSI.out w).1 hSw; go_simp <;> with_reducible rfl
          try simp only [Act.put, List.setIfInBounds_toArray, List.set_cons_zero, List.set_cons_succ]
          refine wpAnyL_take 14 (v := ?_) rfl rfl (by kernel_rfl) (by kernel_rfl) (by kernel_rfl) (by kernel_rfl) (fun _ _ _ h => h) (Or.inl ⟨by rfl, ?_⟩) hS ?_; rotate_left; · intro w hSw; go_simp <;> with_reducible rfl
          try simp only [Act.put, List.setIfInBounds_toArray, List.set_cons_zero, List.set_cons_succ]
          refine wpAnyL_take 15 (v := ?_) rfl rfl (by kernel_rfl) (by kernel_rfl) (by kernel_rfl) (by kernel_rfl) (fun _ _ _ h => h) (Or.inl ⟨by rfl, ?_⟩) hS ?_; rotate_left; · intro w hSw; go_simp <;> with_reducible rfl
          try simp only [Act.put, List.setIfInBounds_toArray, List.set_cons_zero, List.set_cons_succ]
          refine wpAnyL_take 16 (v := ?_) rfl rfl (by kernel_rfl) (by kernel_rfl) (by kernel_rfl) (by kernel_rfl) (fun _ _ _ h => h) (Or.inl ⟨by rfl, ?_⟩) hS ?_; rotate_left; · intro w hSw; go_simp <;> with_reducible rfl
          try simp only [Act.put, List.setIfInBounds_toArray, List.set_cons_zero, List.set_cons_succ]
          refine wpAnyL_take 17 (v := ?_) rfl rfl (by kernel_rfl) (by kernel_rfl) (by kernel_rfl) (by kernel_rfl) (fun _ _ _ h => h) (Or.inl ⟨by rfl, ?_⟩) hS ?_; rotate_left; · intro w hSw; go_simp <;> with_reducible rfl
          try simp only [Act.put, List.setIfInBounds_toArray, List.set_cons_zero, List.set_cons_succ]
          refine wpAnyL_one 18 rfl rfl (by kernel_rfl) ?_; intro K hK; rw [if_pos (by rfl)]
          go_simp
          refine hK.out _ _ (fun h => absurd rfl h) ?_; clear hK K
          refine wpAnyL_done (by kernel_rfl) ?_ _
          have ho9 := (ho8.stored x2 (.bool ((dy : Int) == ((dx + x3 : Nat) : Int)))).1
          rw [← bls_set] at ho9
          have hb9 : Below w3.heap.size w3 (wq.drew.setCell ⟨w3.heap.size, x2, none⟩ (.bool ((dy : Int) == ((dx + x3 : Nat) : Int)))) := (hb8.drew).setCell (by show w3.heap.size ≤ w3.heap.size; omega) _
          have heq9 : fv far x2 = fv far x1 + x3 → ((dy : Int) == ((dx + x3 : Nat) : Int)) = true := fun h => by
            have h9 : dy = dx + x3 := by omega
            rw [h9]
            simp
          have HH9 := HH.out.step HEI.out hbb (b' := ((dy : Int) == ((dx + x3 : Nat) : Int))) (fun h => by cases h) heq9
          clear hS
          go_wp2_with fail
          go_roundg (n - (i + 1))
          case measure => have := HGI.out; omega
          case rel => exact ⟨i + 1, _, by go_num, by omega, Lib.hid HH9, ho9, hb9⟩
        · skip
          have hcd : wq.drew.cell? ⟨w3.heap.size, x2, none⟩ = some (.bool true) := hch
          have hfd : wq.drew.frozen? ⟨w3.heap.size, x2, none⟩ = false := hfh
          obtain ⟨S, hSI⟩ : ∃ S : World → Prop, ∀ w', S w' ↔ (w'.cell? ⟨gx, 1, none⟩ = some (.int .i64 (x2 : Int)) ∧ w'.cell? ⟨w3.heap.size, x2, none⟩ = some (.bool true) ∧ w'.cell? ⟨gf, x2, none⟩ = some (.int .i64 (dy : Int))) := ⟨fun w' => _, fun w' => Iff.rfl⟩
          have HSI := Lib.hid hSI
          clear hSI
          refine wp_region_L S 18 (by kernel_rfl) ((HSI.out _).2 ⟨hb1x, hch, hcy⟩) (fun hS => ?_)
          refine wpAnyL_take 0 (v := ?_) rfl rfl (by kernel_rfl) (by kernel_rfl) (by kernel_rfl) (by kernel_rfl) (fun _ _ _ h => h) (Or.inl ⟨by rfl, ?_⟩) hS ?_; rotate_left; · intro w hSw; go_simp <;> with_reducible rfl
          try simp only [Act.put, List.setIfInBounds_toArray, List.set_cons_zero, List.set_cons_succ]
          refine wpAnyL_take 1 (v := ?_) rfl rfl (by kernel_rfl) (by kernel_rfl) (by kernel_rfl) (by kernel_rfl) (fun _ _ _ h => h) (Or.inl ⟨by rfl, ?_⟩) hS ?_; rotate_left; · intro w hSw; go_simp <;> with_reducible rfl
          try simp only [Act.put, List.setIfInBounds_toArray, List.set_cons_zero, List.set_cons_succ]
          refine wpAnyL_take 2 (v := ?_) rfl rfl (by kernel_rfl) (by kernel_rfl) (by kernel_rfl) (by kernel_rfl) (fun _ _ _ h => h) (Or.inl ⟨by rfl, ?_⟩) hS ?_; rotate_left; · intro w hSw; obtain ⟨hz0, hz1, hz2⟩ := (HSI.out w).1 hSw; go_simp <;> with_reducible rfl
          try simp only [Act.put, List.setIfInBounds_toArray, List.set_cons_zero, List.set_cons_succ]
          refine wpAnyL_take 3 (v := ?_) rfl rfl (by kernel_rfl) (by kernel_rfl) (by kernel_rfl) (by kernel_rfl) (fun _ _ _ h => h) (Or.inl ⟨by rfl, ?_⟩) hS ?_; rotate_left; · intro w hSw; go_simp <;> with_reducible rfl
          try simp only [Act.put, List.setIfInBounds_toArray, List.set_cons_zero, List.set_cons_succ]
          refine wpAnyL_take 4 (v := ?_) rfl rfl (by kernel_rfl) (by kernel_rfl) (by kernel_rfl) (by kernel_rfl) (fun _ _ _ h => h) (Or.inl ⟨by rfl, ?_⟩) hS ?_; rotate_left; · intro w hSw; go_simp <;> with_reducible rfl
          try simp only [Act.put, List.setIfInBounds_toArray, List.set_cons_zero, List.set_cons_succ]
          refine wpAnyL_take 5 (v := ?_) rfl rfl (by kernel_rfl) (by kernel_rfl) (by kernel_rfl) (by kernel_rfl) (fun _ _ _ h => h) (Or.inl ⟨by rfl, ?_⟩) hS ?_; rotate_left; · intro w hSw; obtain ⟨hz0, hz1, hz2⟩ := (HSI.out w).1 hSw; go_simp <;> with_reducible rfl
          try simp only [Act.put, List.setIfInBounds_toArray, List.set_cons_zero, List.set_cons_succ]
          refine wpAnyL_take 6 (v := ?_) rfl rfl (by kernel_rfl) (by kernel_rfl) (by kernel_rfl) (by kernel_rfl) (fun _ _ _ h => h) (Or.inl ⟨by rfl, ?_⟩) hS ?_; rotate_left; · intro w hSw; go_simp <;> with_reducible rfl
          try simp only [Act.put, List.setIfInBounds_toArray, List.set_cons_zero, List.set_cons_succ]
          refine wpAnyL_take 7 (v := ?_) rfl rfl (by kernel_rfl) (by kernel_rfl) (by kernel_rfl) (by kernel_rfl) (fun _ _ _ h => h) (Or.inl ⟨by rfl, ?_⟩) hS ?_; rotate_left; · intro w hSw; obtain ⟨hz0, hz1, hz2⟩ := (HSI.out w).1 hSw; go_simp <;> with_reducible rfl
          try simp only [Act.put, List.setIfInBounds_toArray, List.set_cons_zero, List.set_cons_succ]
          refine wpAnyL_take 8 (v := ?_) rfl rfl (by kernel_rfl) (by kernel_rfl) (by kernel_rfl) (by kernel_rfl) (fun _ _ _ h => h) (Or.inl ⟨by rfl, ?_⟩) hS ?_; rotate_left; · intro w hSw; go_simp <;> with_reducible rfl
          try simp only [Act.put, List.setIfInBounds_toArray, List.set_cons_zero, List.set_cons_succ]
          refine wpAnyL_take 9 (v := undef) rfl rfl (by kernel_rfl) (by kernel_rfl) (by kernel_rfl) (by kernel_rfl) (fun _ _ _ h => h) (Or.inr ⟨by rfl, rfl⟩) hS ?_
          try simp only [Act.put, List.setIfInBounds_toArray, List.set_cons_zero, List.set_cons_succ]
          refine wpAnyL_take 10 (v := undef) rfl rfl (by kernel_rfl) (by kernel_rfl) (by kernel_rfl) (by kernel_rfl) (fun _ _ _ h => h) (Or.inr ⟨by rfl, rfl⟩) hS ?_
          try simp only [Act.put, List.setIfInBounds_toArray, List.set_cons_zero, List.set_cons_succ]
          refine wpAnyL_take 11 (v := undef) rfl rfl (by kernel_rfl) (by kernel_rfl) (by kernel_rfl) (by kernel_rfl) (fun _ _ _ h => h) (Or.inr ⟨by rfl, rfl⟩) hS ?_
          try simp only [Act.put, List.setIfInBounds_toArray, List.set_cons_zero, List.set_cons_succ]
          refine wpAnyL_take 12 (v := undef) rfl rfl (by kernel_rfl) (by kernel_rfl) (by kernel_rfl) (by kernel_rfl) (fun _ _ _ h => h) (Or.inr ⟨by rfl, rfl⟩) hS ?_
          try simp only [Act.put, List.setIfInBounds_toArray, List.set_cons_zero, List.set_cons_succ]
          refine wpAnyL_take 13 (v := undef) rfl rfl (by kernel_rfl) (by kernel_rfl) (by kernel_rfl) (by kernel_rfl) (fun _ _ _ h => h) (Or.inr ⟨by rfl, rfl⟩) hS ?_
          try simp only [Act.put, List.setIfInBounds_toArray, List.set_cons_zero, List.set_cons_succ]
          refine wpAnyL_take 14 (v := undef) rfl rfl (by kernel_rfl) (by kernel_rfl) (by kernel_rfl) (by kernel_rfl) (fun _ _ _ h => h) (Or.inr ⟨by rfl, rfl⟩) hS ?_
          try simp only [Act.put, List.setIfInBounds_toArray, List.set_cons_zero, List.set_cons_succ]
          refine wpAnyL_take 15 (v := undef) rfl rfl (by kernel_rfl) (by kernel_rfl) (by kernel_rfl) (by kernel_rfl) (fun _ _ _ h => h) (Or.inr ⟨by rfl, rfl⟩) hS ?_
          try simp only [Act.put, List.setIfInBounds_toArray, List.set_cons_zero, List.set_cons_succ]
          refine wpAnyL_take 16 (v := ?_) rfl rfl (by kernel_rfl) (by kernel_rfl) (by kernel_rfl) (by kernel_rfl) (fun _ _ _ h => h) (Or.inl ⟨by rfl, ?_⟩) hS ?_; rotate_left; · intro w hSw; go_simp <;> with_reducible rfl
          try simp only [Act.put, List.setIfInBounds_toArray, List.set_cons_zero, List.set_cons_succ]
          refine wpAnyL_take 17 (v := ?_) rfl rfl (by kernel_rfl) (by kernel_rfl) (by kernel_rfl) (by kernel_rfl) (fun _ _ _ h => h) (Or.inl ⟨by rfl, ?_⟩) hS ?_; rotate_left; · intro w hSw; go_simp <;> with_reducible rfl
          try simp only [Act.put, List.setIfInBounds_toArray, List.set_cons_zero, List.set_cons_succ]
          refine wpAnyL_one 18 rfl rfl (by kernel_rfl) ?_; intro K hK; rw [if_pos (by rfl)]
          go_simp
          refine hK.out _ _ (fun h => absurd rfl h) ?_; clear hK K
          refine wpAnyL_done (by kernel_rfl) ?_ _
          have ho9 := (ho8.stored x2 (.bool true)).1
          rw [← bls_set] at ho9
          have hb9 : Below w3.heap.size w3 (wq.drew.setCell ⟨w3.heap.size, x2, none⟩ (.bool true)) := (hb8.drew).setCell (by show w3.heap.size ≤ w3.heap.size; omega) _
          have HH9 := HH.out.step HEI.out hbb (b' := true) (fun _ => rfl) (fun _ => rfl)
          clear hS
          go_wp2_with fail
          go_roundg (n - (i + 1))
          case measure => have := HGI.out; omega
          case rel => exact ⟨i + 1, _, by go_num, by omega, Lib.hid HH9, ho9, hb9⟩
    · have hd3' : decide ((i : Int) < (n : Int)) = false := by simp; omega
      have hd4' : decide (i < n) = false := by simp; omega
      obtain rfl : n = i := by omega
      have HHE := Lib.hid (show HadD E far V N hs E.length by rw [← HN.out]; exact HH.out)
      have HX8 := Lib.hid (HX3.out.next hb)
      have HF8 := Lib.hid (own_later HF3.out hb)
      have HA8 := Lib.hid (own_later HA3.out hb)
      have HO8 := Lib.hid ho
      clear HH hil
      go_wp2_with fail
      clear hy0 hy1 hd3' hd4' ho
      obtain ⟨w8, hw8⟩ : ∃ w8 : World, w8 = wr := ⟨_, rfl⟩
      rw [← hw8] at HX8 HF8 HA8 HO8 hb ⊢
      clear hw8
      go_loopg [17] N (fun gk v17 wr => ∃ u : Nat, v17 = .int .i64 (u : Int) ∧ u + gk = N ∧ Below w8.heap.size w8 wr)
      case atStart => exact ⟨0, rfl, by omega, Below.refl _ _⟩
      case round =>
        obtain ⟨u, rfl, hgu, hbu⟩ := hrel
        have HGU := Lib.hid hgu
        have hu : u ≤ N := by omega
        clear hgu
        obtain ⟨hy0, hy1, _, _⟩ := (HX8.out.next hbu).two
        by_cases hul : u < N
        · have hu0 : (0 : Int) ≤ (u : Int) := by omega
          have huN : (u : Int) < (N : Int) := by omega
          have hd5' : decide ((u : Int) < (N : Int)) = true := by simp; omega
          have hd6' : decide (u < N) = true := by simp; omega
          have HRC := Lib.hid (reach_cellD (own_later HA8.out hbu) hul)
          have HFC := Lib.hid (far_cell (own_later HF8.out hbu) hfl hul)
          by_cases hR : Rch E V u
          · obtain ⟨d, hd⟩ : ∃ d, fv far u = d + 1 := ⟨fv far u - 1, by have := (HT.out.rch u).2 hR; omega⟩
            have hca := HRC.out.1 hR
            have hcb := HFC.out.2 d hd
            have hcc := own_boolD (own_later HO8.out hbu) hul (HHE.out.all HT.out hR)
            have hnn : decide ((0 : Int) ≤ (d : Int)) = true := by simp
            clear hR hd
            go_upto_region 21 with fail
            go_quiet (fail)
            go_wp2_with fail
            go_roundg (N - (u + 1))
            case measure => have := HGU.out; omega
            case rel => exact ⟨u + 1, by go_num, by omega, hbu.trans ((below_drewN (Below.refl _ _) _).mono hbu.size)⟩
          · have h0 : fv far u = 0 := by
              by_cases h0 : fv far u = 0
              · exact h0
              · exact absurd ((HT.out.rch u).1 h0) hR
            have hca := HRC.out.2 hR
            have hcb := HFC.out.1 h0
            clear hR h0
            go_upto_region 21 with fail
            go_quiet (fail)
            go_wp2_with fail
            go_roundg (N - (u + 1))
            case measure => have := HGU.out; omega
            case rel => exact ⟨u + 1, by go_num, by omega, hbu.trans ((below_drewN (Below.refl _ _) _).mono hbu.size)⟩
        · have hd5' : decide ((u : Int) < (N : Int)) = false := by simp; omega
          have hd6' : decide (u < N) = false := by simp; omega
          go_wp2_with fail
          go_ret
          exact ⟨rfl, hbw3.trans ((hb.trans (hbu.mono hb.size)).mono hbw3.size)⟩
end Go.Proofs.Ytcaolnpkpialdaa
