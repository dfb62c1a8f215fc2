/- The walks of paths.Weak and of its closure root. -/
import Derived.Test.YtiaflhlfodcbjaaCheck
import Derived.Test.YtiaflhlfodcbjaaPWeak
import Derived.Test.YtiaflhlfodcbjaaRowsM
import Derived.Deep.QuietTactic
import Derived.BigQuiet
import Derived.Test.YtiaflhlfodcbjaaHeldL
namespace Go.Proofs.Ytiaflhlfodcbjaa
open Go.RowKit
theorem upOk_at {N : Nat} {up : List Nat} (h : UpOk N up) {v : Nat} (hv : v < N) : (nts up)[v]? = some (.int .i64 ((up.getD v 0 : Nat) : Int)) := by
  unfold nts
  rw [List.getElem?_map, List.getD_eq_getElem?_getD, List.getElem?_eq_getElem (by rw [h.1]; exact hv)]; rfl
set_option maxHeartbeats 2000000 in
set_option maxRecDepth 100000 in
theorem root_ok (N v bx g B : Nat) (up : List Nat) (w : World) (hb : w.cell? ⟨bx, 0, none⟩ = some (.slice (some ⟨g, 0, none⟩) N N)) (ho : w.ownsRow B 3 1 (.slice (some ⟨g, 0, none⟩) N N) N (nts up)) (hu : UpOk N up) (hv : v < N) :
    Calls Try.prog 36 #[.int .i64 (v : Int), .pointer (some ⟨bx, 0, none⟩)] w fun e w' => e = .returned (.int .i64 ((rootU up v : Nat) : Int)) ∧ w = w' := by
  have HO := Lib.hid ho
  have HU := Lib.hid hu
  clear ho hu
  go_enter Try.func36, Try.ntmps36
  go_wp2_with fail
  go_loopg [0] v (fun gk v0 wr => ∃ x : Nat, v0 = .int .i64 (x : Int) ∧ x = gk ∧ x < N ∧ Hid (rootU up x = rootU up v) ∧ w = wr)
  case atStart => exact ⟨v, rfl, rfl, hv, Lib.hid rfl, rfl⟩
  case round =>
    clear hv
    obtain ⟨x, rfl, hxg, hx, HX, rfl⟩ := hrel
    have HXG := Lib.hid hxg
    clear hxg
    have hcell := HO.out.cellAt x (by omega)
    rw [upOk_at HU.out hx] at hcell
    have hle := HU.out.2 x hx
    have HFX := Lib.hid (fun h => rootU_of_fix (up := up) (v := x) h)
    have HST := Lib.hid (fun h => rootU_step (up := up) (v := x) h)
    generalize up.getD x 0 = y at *
    have hx0 : (0 : Int) ≤ (x : Int) := by omega
    have hxN : (x : Int) < (N : Int) := by omega
    by_cases he : y < x
    · have hne : ((y : Int) != (x : Int)) = true := by simp; omega
      go_wp2_with fail
      go_roundg y
      case measure => have := HXG.out; omega
      case rel => exact ⟨y, rfl, rfl, by omega, Lib.hid ((HST.out he).symm.trans HX.out), rfl⟩
    · have hne : ((y : Int) != (x : Int)) = false := by simp; omega
      go_wp2_with fail
      go_ret
      exact ⟨by rw [← HX.out, HFX.out he]; rfl, rfl⟩
/-- parents at first -/
def upL (N k : Nat) : List Nat := (List.range N).map fun v => if v < k then v else 0
theorem upL_len (N k : Nat) : (upL N k).length = N := by simp [upL]
theorem upL_zero (N : Nat) : upL N 0 = List.replicate N 0 := by
  apply List.ext_getElem?
  intro v
  unfold upL
  rw [List.getElem?_map, List.getElem?_replicate]
  by_cases hv : v < N
  · rw [List.getElem?_range hv, if_pos hv]; rfl
  · rw [List.getElem?_eq_none (by simp; omega), if_neg hv]; rfl
theorem upL_all (N : Nat) : upL N N = List.range N := by
  unfold upL
  refine (List.map_congr_left fun v hv => ?_).trans (List.map_id' _)
  rw [if_pos (List.mem_range.1 hv)]
theorem upL_set {N k : Nat} (hk : k < N) : (upL N k).set k k = upL N (k + 1) := by
  apply List.ext_getElem?
  intro v
  rw [List.getElem?_set, upL_len]
  unfold upL
  rw [List.getElem?_map, List.getElem?_map]
  by_cases hv : v < N
  · rw [List.getElem?_range hv]
    by_cases he : k = v
    · subst he; rw [if_pos rfl, if_pos hk]; simp
    · rw [if_neg he]
      simp only [Option.map_some, Option.some.injEq]
      split <;> split <;> omega
  · rw [List.getElem?_eq_none (by simp; omega), if_neg (by omega)]; rfl
theorem quiet_sameW {P : Program} {f : FuncId} {args : Array Value} {w : World} {n : Nat} {v : Value}
    (h : Calls P f args (w.drewN n) fun e w' => e = .returned v ∧ w.drewN n = w') : Calls P f args (w.drewN n) fun e w'' => e = .returned v ∧ ∃ m, w'' = w.drewN m :=
  h.mono fun _ _ ⟨he, hm⟩ => ⟨he, n, hm.symm⟩
set_option maxHeartbeats 8000000 in
set_option maxRecDepth 100000 in
theorem weak_ok (N n c : Nat) (p : Option Addr) (E : List Eg) (w : World) (h : Sl w 3 (.slice p n c) n (ecs E)) (hG : InG N E) (hN : N ≤ 200) (hn : n ≤ 600) :
    Calls Try.prog 20 #[.agg #[.int .i64 (N : Int), .slice p n c]] w fun e w' => ∃ g wk, e = .returned (.tuple #[.slice (some ⟨g, 0, none⟩) N N, .int .i64 0]) ∧ WeakOk N E wk ∧ w'.ownsRow w.heap.size 3 1 (.slice (some ⟨g, 0, none⟩) N N) N (nts wk) ∧ Below w.heap.size w w' := by
  have HCH := Lib.hid (fun (W : World) (h' : Below w.heap.size w W) => check_ok N n c p E W (h.later h') hG hN hn)
  obtain ⟨hln, hnc, hc63⟩ := h.elen
  have HL := Lib.hid h
  have HLN := Lib.hid hln
  have HG := Lib.hid hG
  clear h hG hln
  obtain ⟨b0, B0, hz0⟩ := boxed0 w [.int .i64 (N : Int), .slice p n c] 25
  obtain ⟨ha0, ha1, _, _⟩ := B0.two
  go_enter Try.func20, Try.ntmps20
  go_wp2_with fail
  refine (HCH.out _ b0).mono ?_; rintro e w1 ⟨rfl, hb1⟩
  clear ha0 ha1
  have X1 := B0.next hb1
  have hw1 := b0.trans (hb1.mono (by omega))
  have hz1 := Nat.le_trans hz0 hb1.size
  clear hb1 b0 B0 hz0
  generalize w.alloc (.cells #[.int .i64 (N : Int), .slice p n c] 25) = W0 at *
  obtain ⟨i0, hi, hj0, hj1, hj2⟩ := info_parts inf_int
  obtain ⟨wm, hrun, hom, hgm⟩ := run_make_full (P := Try.prog) w1 w1.heap.size 38 3 i0 (.int .i64 0) 1 rfl hi hj0 hj1 .i64 .i64 N (by rw [hj2]; omega) (by unfold maxLen; omega) (Nat.le_refl _)
  have hbm := (Below.refl w1.heap.size w1).grown hgm (Nat.le_refl _) (fun k hk => by cases hk)
  have hom2 : wm.ownsRow w1.heap.size 3 1 (.slice (some ⟨w1.heap.size, 0, none⟩) N N) N (nts (upL N 0)) := by
    rw [upL_zero, nts_zero, ← toList_madeCells_one]
    rw [Nat.mul_one] at hom
    exact hom
  obtain ⟨b3, B3, hz3⟩ := boxed0 wm [.slice (some ⟨w1.heap.size, 0, none⟩) N N] 38
  have X3 := (X1.next hbm).next b3
  have ho3 := own_later hom2 b3
  obtain ⟨ha0, ha1, _, _⟩ := X1.two
  have hgs := (hom2.lt _ rfl).2
  have hw3 := (hw1.trans (hbm.mono hw1.size)).trans (b3.mono (by have := hw1.size; have := hbm.size; omega))
  have hzw : wm.heap.size < (wm.alloc (.cells #[.slice (some ⟨w1.heap.size, 0, none⟩) N N] 38)).heap.size := by simp
  clear hom hom2 hgm hi hj0 hj1 hj2 X1 hbm b3 hz3
  go_wp2_with fail
  clear ha0 ha1 hrun
  obtain ⟨bx, hbx⟩ : ∃ bx, bx = wm.heap.size := ⟨_, rfl⟩
  obtain ⟨g, hg⟩ : ∃ g, g = w1.heap.size := ⟨_, rfl⟩
  rw [← hbx] at hzw B3 hgs ⊢
  rw [← hg] at hzw B3 ho3 hgs hz1 hw3 X3 ⊢
  have hgw : w.heap.size < g := by omega
  have hws : w.heap.size ≤ w1.heap.size := hw1.size
  generalize wm.alloc (.cells #[.slice (some ⟨g, 0, none⟩) N N] 38) = W at *
  clear hz1 hw1 hbx hg hws
  go_loopg [23] N (fun gk v23 wr => ∃ k : Nat, v23 = .int .i64 (k : Int) ∧ k + gk = N ∧ wr.ownsRow g 3 1 (.slice (some ⟨g, 0, none⟩) N N) N (nts (upL N k)) ∧ Bx wr bx [.slice (some ⟨g, 0, none⟩) N N] ∧ Bx wr w.heap.size [.int .i64 (N : Int), .slice p n c] ∧ Below w.heap.size w wr)
  case atStart => exact ⟨0, rfl, by omega, ho3, B3, X3, hw3⟩
  case round =>
    clear ho3 B3 X3 hw3 hzw
    obtain ⟨k, rfl, hgk, ho, hB, hX, hb⟩ := hrel
    have HGK := Lib.hid hgk
    have hk : k ≤ N := by omega
    clear hgk
    have hbc := hB.one
    by_cases hlt : k < N
    · have hcl := ho.cellAt k (by omega)
      have hfr := ho.frozenAt k
      rw [show (nts (upL N k))[k]? = some (.int .i64 (((upL N k)[k]'(by rw [upL_len]; exact hlt) : Nat) : Int)) from nts_at _] at hcl
      have hst := (ho.stored k (.int .i64 (k : Int))).1
      rw [← nts_set, upL_set hlt] at hst
      have hk0 : (0 : Int) ≤ (k : Int) := by omega
      have hkN : (k : Int) < (N : Int) := by omega
      have hd1' : decide ((k : Int) < (N : Int)) = true := by simp; omega
      have hd2' : decide (k < N) = true := by simp; omega
      generalize (upL N k)[k]'(by rw [upL_len]; exact hlt) = old at hcl
      go_wp2_with fail
      go_roundg (N - (k + 1))
      case measure => have := HGK.out; omega
      case rel => exact ⟨k + 1, by go_num, by omega, hst, bx_oth hB (by show bx ≠ g; omega) _, bx_oth hX (by show w.heap.size ≠ g; omega) _, hb.setCell (by simp; omega) _⟩
    · obtain rfl : k = N := by omega
      have hd1' : decide ((k : Int) < (k : Int)) = false := by simp
      rw [upL_all] at ho
      obtain ⟨hx0, hx1, _, _⟩ := hX.two
      have hJ := Joined.start k E
      go_wp2_with fail
      clear hx0 hx1 hbc
      obtain ⟨wo, rfl⟩ : ∃ wo : World, wo = wr := ⟨_, rfl⟩
      go_loopg [35] n (fun gk v35 wr => ∃ (i : Nat) (up : List Nat), v35 = .int .i64 (i : Int) ∧ i + gk = n ∧ wr.ownsRow g 3 1 (.slice (some ⟨g, 0, none⟩) k k) k (nts up) ∧ Joined k E (E.take i) up ∧ Bx wr bx [.slice (some ⟨g, 0, none⟩) k k] ∧ Below w.heap.size w wr)
      case atStart => exact ⟨0, List.range k, rfl, by omega, ho, by rw [List.take_zero]; exact hJ, hB, hb⟩
      case round =>
        clear ho hJ hB hb
        obtain ⟨i, up, rfl, hgi, ho, hJ, hB, hb⟩ := hrel
        have HGI := Lib.hid hgi
        have hi : i ≤ n := by omega
        clear hgi
        have hbsz : bx < wr.heap.size := hB.lt
        by_cases hil : i < n
        · have hil2 : i < E.length := by have := HLN.out; omega
          have hmem := List.getElem_mem hil2
          have hin := HG.out _ hmem
          have hts := List.take_succ_eq_append_getElem hil2
          obtain ⟨b, off, rfl, hc0, hc1, hc2⟩ := (HL.out.later hb).edge hil2
          generalize E[i] = x at hin hmem hts hc0 hc1 hc2
          obtain ⟨x1, x2, x3⟩ := x
          dsimp only at hin hc0 hc1 hc2
          obtain ⟨hx1, hx2, _⟩ := hin
          have hjs := hJ.step hmem hx1 hx2
          rw [← hts] at hjs
          have hi0 : (0 : Int) ≤ (i : Int) := by omega
          have hin' : (i : Int) < (n : Int) := by omega
          have hd3' : decide ((i : Int) < (n : Int)) = true := by simp; omega
          have hd4' : decide (i < n) = true := by simp; omega
          have hoA := ho.alloc (.cells #[.int .i64 (x1 : Int), .int .i64 (x2 : Int), .int .i64 (x3 : Int)] 46)
          have hBA := hB.alloc (.cells #[.int .i64 (x1 : Int), .int .i64 (x2 : Int), .int .i64 (x3 : Int)] 46)
          have hbA := hb.alloc hb.size (.cells #[.int .i64 (x1 : Int), .int .i64 (x2 : Int), .int .i64 (x3 : Int)] 46)
          have hbc := hBA.one
          have HRX := Lib.hid (fun nq => root_ok k x1 bx g g up ((wr.alloc (.cells #[.int .i64 (x1 : Int), .int .i64 (x2 : Int), .int .i64 (x3 : Int)] 46)).drewN nq) hbc hoA hJ.ok hx1)
          have HRY := Lib.hid (fun nq => root_ok k x2 bx g g up ((wr.alloc (.cells #[.int .i64 (x1 : Int), .int .i64 (x2 : Int), .int .i64 (x3 : Int)] 46)).drewN nq) hbc hoA hJ.ok hx2)
          have ra := rootU_le up x1
          have rb := rootU_le up x2
          have hupl := hJ.ok.1
          dsimp only at hjs
          generalize rootU up x1 = A at *
          generalize rootU up x2 = B at *
          have HJS := Lib.hid hjs
          clear hjs hmem hts hJ
          have hMk : max A B < k := by omega
          obtain ⟨M, hM⟩ : ∃ M, M = max A B := ⟨_, rfl⟩
          obtain ⟨m, hm⟩ : ∃ m, m = min A B := ⟨_, rfl⟩
          rw [← hM] at hMk HJS
          rw [← hm] at HJS
          have hM' : max (A : Int) (B : Int) = (M : Int) := by omega
          have hm' : min (A : Int) (B : Int) = (m : Int) := by omega
          clear hM hm
          have hM0 : (0 : Int) ≤ (M : Int) := by omega
          have hMk' : (M : Int) < (k : Int) := by omega
          have hcl := hoA.cellAt M (by omega)
          have hfr := hoA.frozenAt M
          rw [show (nts up)[M]? = some (.int .i64 ((up[M]'(by omega) : Nat) : Int)) from nts_at _] at hcl
          generalize up[M]'(by omega) = old at hcl
          have hst := (hoA.stored M (.int .i64 (m : Int))).1
          rw [← nts_set] at hst
          go_upto_region 14 with fail
          go_quiet ((first | (go_at_call_of 36 (Value.int .i64 (x1 : Int)); exact quiet_sameW (HRX.out _)) | (go_at_call_of 36 (Value.int .i64 (x2 : Int)); exact quiet_sameW (HRY.out _))))
          go_wp2_with fail
          go_roundg (n - (i + 1))
          case measure => have := HGI.out; omega
          case rel => exact ⟨i + 1, _, by go_num, by omega, hst, HJS.out, bx_oth hBA (by show bx ≠ g; omega) _, (below_drewN hbA _).setCell (by simp; omega) _⟩
        · obtain rfl : i = n := by omega
          have hd3' : decide ((i : Int) < (i : Int)) = false := by simp
          rw [List.take_of_length_le (by have := HLN.out; omega)] at hJ
          have hbc := hB.one
          go_wp2_with fail
          clear hbc
          go_loopg [58] k (fun gk v58 wr => ∃ (j : Nat) (up : List Nat), v58 = .int .i64 (j : Int) ∧ j + gk = k ∧ wr.ownsRow g 3 1 (.slice (some ⟨g, 0, none⟩) k k) k (nts up) ∧ Joined k E E up ∧ Hid (∀ v, v < j → up.getD v 0 = rootU up v) ∧ Bx wr bx [.slice (some ⟨g, 0, none⟩) k k] ∧ Below w.heap.size w wr)
          case atStart => exact ⟨0, up, rfl, by omega, ho, hJ, Lib.hid (fun v hv => absurd hv (by omega)), hB, hb⟩
          case round =>
            clear ho hJ hB hb
            obtain ⟨j, up, rfl, hgj, ho, hJ, HF, hB, hb⟩ := hrel
            have HGJ := Lib.hid hgj
            have hj : j ≤ k := by omega
            clear hgj
            have hbc := hB.one
            by_cases hjl : j < k
            · have hsh := Lib.hid (hJ.short hjl)
              have hupl := hJ.ok.1
              have hrle := rootU_le up j
              have hj0 : (0 : Int) ≤ (j : Int) := by omega
              have hjk : (j : Int) < (k : Int) := by omega
              have hd5' : decide ((j : Int) < (k : Int)) = true := by simp; omega
              have hd6' : decide (j < k) = true := by simp; omega
              have HRT := Lib.hid (root_ok k j bx g g up wr.drew hbc ho hJ.ok hjl)
              have HF2 := Lib.hid (show ∀ v, v < j + 1 → (up.set j (rootU up j)).getD v 0 = rootU (up.set j (rootU up j)) v from fun v hv => by
                rw [hsh.out.2, getD_set (by omega)]
                split
                · rename_i e; rw [e]
                · exact HF.out v (by omega))
              have hcl := ho.cellAt j (by omega)
              have hfr := ho.frozenAt j
              rw [show (nts up)[j]? = some (.int .i64 ((up[j]'(by omega) : Nat) : Int)) from nts_at _] at hcl
              generalize up[j]'(by omega) = old at hcl
              have hst := (ho.stored j (.int .i64 ((rootU up j : Nat) : Int))).1
              rw [← nts_set] at hst
              have hJ2 := hsh.out.1
              generalize rootU up j = q at *
              clear hJ
              go_upto_region 20 with fail
              obtain ⟨S, hSI⟩ : ∃ S : World → Prop, ∀ w', S w' ↔ (w'.cell? ⟨bx, 0, none⟩ = some (Value.slice (some ⟨g, 0, none⟩) k k)) := ⟨fun w' => _, fun w' => Iff.rfl⟩
              have HSI := Lib.hid hSI
              clear hSI
              refine wp_region_L S 6 (by kernel_rfl) ((HSI.out _).2 hbc) (fun hS => ?_)
              refine wpAnyL_take 0 (v := ?_) rfl rfl (by kernel_rfl) (by kernel_rfl) (by kernel_rfl) (by kernel_rfl) (fun _ _ _ h => h) (Or.inl ⟨by rfl, ?_⟩) hS ?_; rotate_left; · intro w hSw; have hz0 := (HSI.out w).1 hSw; go_simp <;> with_reducible rfl
              try simp only [Act.put, List.setIfInBounds_toArray, List.set_cons_zero, List.set_cons_succ]
              refine wpAnyL_take 1 (v := ?_) rfl rfl (by kernel_rfl) (by kernel_rfl) (by kernel_rfl) (by kernel_rfl) (fun _ _ _ h => h) (Or.inl ⟨by rfl, ?_⟩) hS ?_; rotate_left; · intro w hSw; go_simp <;> with_reducible rfl
              try simp only [Act.put, List.setIfInBounds_toArray, List.set_cons_zero, List.set_cons_succ]
              refine wpAnyL_take 2 (v := ?_) rfl rfl (by kernel_rfl) (by kernel_rfl) (by kernel_rfl) (by kernel_rfl) (fun _ _ _ h => h) (Or.inl ⟨by rfl, ?_⟩) hS ?_; rotate_left; · intro w hSw; go_simp <;> with_reducible rfl
              try simp only [Act.put, List.setIfInBounds_toArray, List.set_cons_zero, List.set_cons_succ]
              refine wpAnyL_take 3 (v := ?_) rfl rfl (by kernel_rfl) (by kernel_rfl) (by kernel_rfl) (by kernel_rfl) (fun _ _ _ h => h) (Or.inl ⟨by rfl, ?_⟩) hS ?_; rotate_left; · intro w hSw; go_simp <;> with_reducible rfl
              try simp only [Act.put, List.setIfInBounds_toArray, List.set_cons_zero, List.set_cons_succ]
              refine wpAnyL_one 4 rfl rfl (by kernel_rfl) ?_; intro K hK; rw [if_pos (by rfl)]
              go_simp
              refine HRT.out.mono ?_; rintro e w' ⟨rfl, rfl⟩
              refine hK.out _ _ (fun _ => hS) ?_; clear hK K
              try simp only [Act.put, List.setIfInBounds_toArray, List.set_cons_zero, List.set_cons_succ]
              refine wpAnyL_take 5 (v := ?_) rfl rfl (by kernel_rfl) (by kernel_rfl) (by kernel_rfl) (by kernel_rfl) (fun _ _ _ h => h) (Or.inl ⟨by rfl, ?_⟩) hS ?_; rotate_left; · intro w hSw; go_simp <;> with_reducible rfl
              try simp only [Act.put, List.setIfInBounds_toArray, List.set_cons_zero, List.set_cons_succ]
              refine wpAnyL_one 6 rfl rfl (by kernel_rfl) ?_; intro K hK; rw [if_pos (by rfl)]
              go_simp
              refine hK.out _ _ (fun h => absurd rfl h) ?_; clear hK K
              refine wpAnyL_done (by kernel_rfl) ?_ _
              go_wp2_with fail
              go_roundg (k - (j + 1))
              case measure => have := HGJ.out; omega
              case rel => exact ⟨j + 1, _, by go_num, by omega, own_drew hst, hJ2, HF2, bx_oth hB (by show bx ≠ g; omega) _, (below_drew hb).setCell (by simp; omega) _⟩
            · obtain rfl : j = k := by omega
              have hd5' : decide ((j : Int) < (j : Int)) = false := by simp
              have hend := Lib.hid (hJ.end HG.out (fun v hv => HF.out v hv))
              go_wp2_with fail
              go_ret2
              exact ⟨g, up, rfl, hend.out, own_mono ho (by omega), hb⟩
end Go.Proofs.Ytiaflhlfodcbjaa
