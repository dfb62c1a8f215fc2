/- The walk of pacelinekeep.reported. -/
import Derived.Test.YtmadpjmlcooinaaHear
import Derived.Test.YtmadpjmlcooinaaTurn
import Derived.Test.YtmadpjmlcooinaaHeldL
import Derived.Deep.DeepCutAuto
import Derived.Deep.LoopGhost
import Derived.Deep.RegionLaw
namespace Go.Proofs.Ytmadpjmlcooinaa
open Go.RowKit
theorem snt_yes {L : List Tl} {i k : Nat} (hi : i < L.length) (hk : k < L[i].1.length) : snt L i k = pickN (L[i].1[k]) 5 := by
  unfold snt; rw [dif_pos hi, dif_pos hk]
theorem snt_far {L : List Tl} {i k : Nat} (hi : ¬ i < L.length) : snt L i k = 0 := by
  unfold snt; rw [dif_neg hi]
theorem snt_short {L : List Tl} {i k : Nat} (hi : i < L.length) (hk : ¬ k < L[i].1.length) : snt L i k = 0 := by
  unfold snt; rw [dif_pos hi, dif_neg hk]
theorem addr_add0 (g a j : Nat) : (⟨g, a, none⟩ : Addr).add j = ⟨g, a + j, none⟩ := by
  unfold Addr.add
  split
  · rename_i h; subst h; rfl
  · rfl
theorem its_get {l : List Int} {i : Nat} (h : i < l.length) : (its l)[i]? = some (.int .i64 l[i]) := by simp [its, h]
set_option linter.unusedVariables false in
set_option maxHeartbeats 16000000 in
set_option maxRecDepth 100000 in
theorem reported_ok (W cl co out : Nat) (off : Int) (pl po : Option Addr) (L : List Tl) (O : List Int) (w : World) (hL : IsTl w (.slice pl L.length cl) L) (hO : IsI w (.slice po O.length co) O) (hW1 : 1 ≤ W) (hW5 : W ≤ 5) (hoff1 : -1 ≤ off) (hoff2 : off ≤ 1000) :
    Calls Try.prog 23 #[.int .i64 (W : Int), .slice pl L.length cl, .slice po O.length co, .int .i64 (out : Int), .int .i64 off] w fun e w' => ∃ T p' c', TurnOk W T ∧ e = .returned (.tuple #[.agg #[.int .i64 (W : Int), .int .i64 2, .int .i64 3, .slice p' (repsL L W out off T).length c'], .bool true]) ∧ IsBd w' (.slice p' (repsL L W out off T).length c') (repsL L W out off T) ∧ Below w.heap.size w w' := by
  have hlv := hL.val
  obtain ⟨pl', cl', hple, hlc1, hlc2⟩ := hlv
  cases hple
  obtain ⟨hoc1, hoc2⟩ := hO.lens.2
  have HL := Lib.hid hL
  have HO := Lib.hid hO
  clear hL hO
  obtain ⟨Q, hQ⟩ : ∃ Q, Q = W * W := ⟨_, rfl⟩
  have hQ25 : Q ≤ 25 := by rw [hQ]; exact Nat.mul_le_mul hW5 hW5
  have hmul : (W : Int) * (W : Int) = (Q : Int) := by rw [hQ]; push_cast; rfl
  have HQ := Lib.hid hQ
  clear hQ
  obtain ⟨b1, B1, z1⟩ := boxed0 w [.int .i64 0, .int .i64 0, .int .i64 0, .slice none 0 0] 56
  have hs1 : (w.alloc (.cells #[.int .i64 0, .int .i64 0, .int .i64 0, .slice none 0 0] 56)).heap.size = w.heap.size + 1 := by simp
  obtain ⟨i0, hi, hj0, hj1, hj2⟩ := info_parts inf_int
  obtain ⟨wm, hrun, hom, hgm⟩ := run_make_full (P := Try.prog) (w.alloc (.cells #[.int .i64 0, .int .i64 0, .int .i64 0, .slice none 0 0] 56)) (w.heap.size + 1) 59 3 i0 (.int .i64 0) 1 rfl hi hj0 hj1 .i64 .i64 Q (by rw [hj2]; omega) (by unfold maxLen; omega) (by omega)
  have hbm := (Below.refl (w.alloc (.cells #[.int .i64 0, .int .i64 0, .int .i64 0, .slice none 0 0] 56)).heap.size _).grown hgm (Nat.le_refl _) (fun k hk => by cases hk)
  rw [hs1] at hrun hom
  have hom2 : wm.ownsRow (w.heap.size + 1) 3 1 (.slice (some ⟨w.heap.size + 1, 0, none⟩) Q Q) Q (nts (mat L W 0 0)) := by
    rw [mat_zero, ← HQ.out, nts_zero, ← toList_madeCells_one]
    rw [Nat.mul_one] at hom
    exact hom
  have X1 := Lib.hid (B1.next hbm)
  have hwm := b1.trans (hbm.mono (by omega))
  have hgs := (hom2.lt _ rfl).2
  clear hom hgm hi hj0 hj1 hj2 b1 B1 z1 hbm
  go_enter Try.func23, Try.ntmps23
  go_wp2_with fail
  clear hrun hs1
  obtain ⟨g, hg⟩ : ∃ g, g = w.heap.size + 1 := ⟨_, rfl⟩
  rw [← hg] at hom2 hgs ⊢
  have hgw : w.heap.size < g := by omega
  clear hg hmul
  go_loopg [13, 14] W (fun gk v13 v14 wr => ∃ i : Nat, v13 = .int .i64 (i : Int) ∧ i + gk = W ∧ wr.ownsRow g 3 1 (.slice (some ⟨g, 0, none⟩) Q Q) Q (nts (mat L W i 0)) ∧ wm.grownBy wr (some g))
  case atStart => exact ⟨0, rfl, by omega, hom2, World.grownBy.refl _ _⟩
  case round =>
    clear hom2
    obtain ⟨i, rfl, hgi, ho, hgr⟩ := hrel
    have HGI := Lib.hid hgi
    have hi : i ≤ W := by omega
    clear hgi
    by_cases hiW : i < W
    · obtain ⟨m, hm⟩ : ∃ m, m = i * W := ⟨_, rfl⟩
      have hmQ : m + W ≤ Q := by
        have h1 := ik_lt (W := W) (i := i) (k := W - 1) hiW (by omega)
        rw [HQ.out, hm]; omega
      have hmul : (i : Int) * (W : Int) = (m : Int) := by rw [hm]; push_cast; rfl
      have HM := Lib.hid hm
      clear hm
      have hi0 : (0 : Int) ≤ (i : Int) := by omega
      have hiW' : (i : Int) < (W : Int) := by omega
      have hd1 : decide ((i : Int) < (W : Int)) = true := by simp; omega
      have hd2 : decide (i < W) = true := by simp; omega
      go_wp2_with fail
      obtain ⟨wo, rfl⟩ : ∃ wo : World, wo = wr := ⟨_, rfl⟩
      go_loopg [14] W (fun gk v14 wr => ∃ k : Nat, v14 = .int .i64 (k : Int) ∧ k + gk = W ∧ wr.ownsRow g 3 1 (.slice (some ⟨g, 0, none⟩) Q Q) Q (nts (mat L W i k)) ∧ wm.grownBy wr (some g))
      case atStart => exact ⟨0, rfl, by omega, ho, hgr⟩
      case round =>
        clear ho hgr
        obtain ⟨k, rfl, hgk, ho, hgr⟩ := hrel
        have HGK := Lib.hid hgk
        have hk : k ≤ W := by omega
        clear hgk
        have hbw := hwm.grown hgr hwm.size (fun j hj => by cases hj; omega)
        by_cases hkW : k < W
        · have hk0 : (0 : Int) ≤ (k : Int) := by omega
          have hkW' : (k : Int) < (W : Int) := by omega
          have hd3 : decide ((k : Int) < (W : Int)) = true := by simp; omega
          have hd4 : decide (k < W) = true := by simp; omega
          by_cases hiL : i < L.length
          · have hd5 : decide ((i : Int) < (L.length : Int)) = true := by simp; omega
            have hd6 : decide (i < L.length) = true := by simp; omega
            have hiL' : (i : Int) < (L.length : Int) := by omega
            obtain ⟨b, of, q, d, rfl, hc0, _, _, hrow, _, _⟩ := (HL.out.later hbw).get hiL
            obtain ⟨hrc1, hrc2⟩ := hrow.lens.2
            by_cases hkl : k < L[i].1.length
            · have hsy := snt_yes hiL hkl
              have hget := its_get hkl
              obtain ⟨b2, of2, rfl, hc1⟩ := hrow.1.get hget
              have hbd := hrow.2 _ (List.getElem_mem hkl)
              have hst := (ho.stored (m + k) (.int .i64 ((snt L i k : Nat) : Int))).1
              rw [← nts_set, HM.out, mat_set hiW hkW, ← HM.out] at hst
              have hco := ho.cellAt (m + k) (by omega)
              rw [nts_at (by rw [mat_len, ← HQ.out]; omega)] at hco
              have hfr := ho.frozenAt (m + k)
              rw [hsy] at hst
              have HPK := Lib.hid (fun W' => picked_i (L[i].1[k]) 5 5 W' rfl hbd.1 hbd.2 (by omega) (by omega))
              generalize (mat L W i k)[m + k]'(by rw [mat_len, ← HQ.out]; omega) = old at hco
              have hd7 : decide ((k : Int) < ((L[i].1.length : Nat) : Int)) = true := by simp; omega
              have hd8 : decide (k < L[i].1.length) = true := by simp; omega
              have hkl' : (k : Int) < ((L[i].1.length : Nat) : Int) := by omega
              clear hsy hget hrow
              generalize L[i].1[k] = y at *
              generalize L[i].1.length = rl at *
              generalize pickN y 5 = z at *
              have hmk0 : (0 : Int) ≤ (m : Int) + (k : Int) := by omega
              have hmkQ : (m : Int) + (k : Int) < (Q : Int) := by omega
              have hmkt : ((m : Int) + (k : Int)).toNat = m + k := by omega
              go_wp2_with (go_at_call 17; refine (HPK.out _).mono ?_; rintro e w' ⟨rfl, rfl⟩)
              go_roundg (W - (k + 1))
              case measure => have := HGK.out; omega
              case rel => exact ⟨k + 1, by go_num, by omega, hst, grown_trans hgr grown_set⟩
            · have hz := mat_row (L := L) (i := i) hk (fun j hj _ => snt_short hiL (by omega))
              rw [hz] at ho
              have hd7 : decide ((k : Int) < ((L[i].1.length : Nat) : Int)) = false := by simp; omega
              have hd8 : decide (k < L[i].1.length) = false := by simp; omega
              clear hz hrow
              generalize L[i].1.length = rl at *
              go_wp2_with fail
              go_roundg (W - (i + 1))
              case measure => have := HGI.out; omega
              case rel => exact ⟨i + 1, by go_num, by omega, ho, hgr⟩
          · have hz := mat_row (L := L) (i := i) hk (fun j _ _ => snt_far hiL)
            rw [hz] at ho
            have hd5 : decide ((i : Int) < (L.length : Int)) = false := by simp; omega
            have hd6 : decide (i < L.length) = false := by simp; omega
            clear hz
            go_wp2_with fail
            go_roundg (W - (i + 1))
            case measure => have := HGI.out; omega
            case rel => exact ⟨i + 1, by go_num, by omega, ho, hgr⟩
        · have hz := mat_row (L := L) (i := i) hk (fun j h1 h2 => absurd h2 (by omega))
          rw [hz] at ho
          have hd3 : decide ((k : Int) < (W : Int)) = false := by simp; omega
          have hd4 : decide (k < W) = false := by simp; omega
          clear hz
          go_wp2_with fail
          go_roundg (W - (i + 1))
          case measure => have := HGI.out; omega
          case rel => exact ⟨i + 1, by go_num, by omega, ho, hgr⟩
    · obtain rfl : W = i := by omega
      have hd1 : decide ((W : Int) < (W : Int)) = false := by simp
      have hbw := hwm.grown hgr hwm.size (fun j hj => by cases hj; omega)
      have HMAT := Lib.hid ho
      have Y1 := Lib.hid (X1.out.grown hgr (fun e => by cases e; omega))
      clear ho hgr hiW
      go_wp2_with fail
      refine (bopen_ok W _ hW1 (by omega)).mono ?_; rintro e w2 ⟨rfl, hb2⟩
      have hw2 := hbw.trans (hb2.mono hbw.size)
      have hz2 := hw2.size
      have HS2 := Lib.hid (own_later HMAT.out hb2)
      have Y2 := Lib.hid (Y1.out.next hb2)
      have hgs2 : g < w2.heap.size := (HS2.out.lt g rfl).2
      clear hbw hb2 HMAT Y1
      obtain ⟨b5, B5, z5⟩ := boxed0 w2 [.int .i64 (W : Int), .int .i64 2, .int .i64 3, .slice none 0 0] 56
      have hs5 : (w2.alloc (.cells #[.int .i64 (W : Int), .int .i64 2, .int .i64 3, .slice none 0 0] 56)).heap.size = w2.heap.size + 1 := by simp
      obtain ⟨hx0, hx1, hx2, hx3, _, _, _, _⟩ := B5.four
      go_wp2_with fail
      clear hx0 hx1 hx2 hx3
      have HS5 := Lib.hid (own_later HS2.out b5)
      have Y5 := Lib.hid (Y2.out.next b5)
      have HB5 := Lib.hid B5
      have hw5 := hw2.trans (b5.mono hw2.size)
      obtain ⟨h15, h15e⟩ : ∃ h15, h15 = w2.heap.size := ⟨_, rfl⟩
      rw [← h15e] at HB5 hs5 hgs2 ⊢
      clear h15e b5 B5 z5 hw2 hz2 HS2 Y2
      generalize (w2.alloc (.cells #[.int .i64 (W : Int), .int .i64 2, .int .i64 3, .slice none 0 0] 56)) = W5 at *
      obtain ⟨wo, rfl⟩ : ∃ wo : World, wo = W5 := ⟨_, rfl⟩
      go_loopg [17, 18] W (fun gk v17 v18 wr => ∃ (i : Nat) (T : List Nat) (p' : Option Addr) (c' : Nat), v18 = .int .i64 (i : Int) ∧ i + gk = W ∧ v17 = .slice p' i c' ∧ Hid (TurnOk i T) ∧ wr.ownsRow (h15 + 1) 3 1 (.slice p' i c') i (nts T) ∧ Below (h15 + 1) wo wr)
      case atStart => exact ⟨0, [], none, 0, rfl, by omega, rfl, Lib.hid (List.Perm.refl _), World.ownsRow_nil _ _ _ _, Below.refl _ _⟩
      case round =>
        obtain ⟨i, T, p', c', rfl, hgi, rfl, HT, ho, hb⟩ := hrel
        have HGI := Lib.hid hgi
        have hi : i ≤ W := by omega
        clear hgi
        have hbs := hb.size
        have hbw := hw5.trans (hb.mono (by omega))
        by_cases hiW : i < W
        · have hi0 : (0 : Int) ≤ (i : Int) := by omega
          have hiW' : (i : Int) < (W : Int) := by omega
          have hd1 : decide ((i : Int) < (W : Int)) = true := by simp; omega
          have hd2 : decide (i < W) = true := by simp; omega
          go_upto_if 95 with fail
          go_cut [19] (fun s19 wx => (∃ a : Nat, s19 = .int .i64 (a : Int) ∧ a ≤ i) ∧ wr = wx)
          case first =>
            by_cases hio : i < O.length
            · have hd3 : decide ((i : Int) < (O.length : Int)) = true := by simp; omega
              have hd4 : decide (i < O.length) = true := by simp; omega
              have hio' : (i : Int) < (O.length : Int) := by omega
              obtain ⟨b, of, rfl, hc0⟩ := (HO.out.later hbw).1.get (its_get hio)
              have hbd := HO.out.2 _ (List.getElem_mem hio)
              have HPK := Lib.hid (fun W' => picked_i O[i] ((i : Int) + 1) (i + 1) W' (by push_cast; rfl) hbd.1 hbd.2 (by omega) (by omega))
              have hpl := pickN_lt O[i] (m := i + 1) (by omega)
              have hwi : IntKind.i64.wrap ((i : Int) + 1) = (i : Int) + 1 := IntWalk.i64_in _ (by omega)
              generalize O[i] = y at *
              generalize pickN y (i + 1) = z at *
              go_wp2_with (go_at_call 17; refine (HPK.out _).mono ?_; rintro e w' ⟨rfl, rfl⟩)
              go_meet
              case rel => exact ⟨⟨z, rfl, by omega⟩, rfl⟩
            · have hd3 : decide ((i : Int) < (O.length : Int)) = false := by simp; omega
              have hd4 : decide (i < O.length) = false := by simp; omega
              go_wp2_with fail
              go_meet
              case rel => exact ⟨⟨0, rfl, by omega⟩, rfl⟩
          case rest =>
            obtain ⟨⟨a, rfl, hai⟩, rfl⟩ := hcut
            go_wp2_with (at_builtin; refine wp_app1h (w0 := wo) rfl (.tmp 103) (.tmp 104) _ rfl (h15 + 1) 3 rfl inf_int rfl (by decide) rfl ho (us := [.int .i64 0]) rfl rfl rfl (by simp [Value.oneCell']) (by unfold maxLen; omega) (by omega) hb (by omega) ?_; intro p3 c3 w3 hown3 hb3 hs3 hg3 hnb3)
            clear hg3 hnb3
            obtain ⟨gt, rfl, _, hic3, hc363⟩ := own_ptr hown3 (by omega)
            obtain ⟨cur, hcur, hcl, hBg, hct, hspl⟩ := own_splice hown3
            have HSP := Lib.hid hspl
            have HCT := Lib.hid hct
            have hTl := HT.out.len
            have hdl : (nts (T.drop a)).length = i - a := by rw [nts_len, List.length_drop]; omega
            have HDL := Lib.hid hdl
            have hsrc : ∀ j v, (nts (T.drop a))[j]? = some v → w3.cell? ⟨gt, a + j, none⟩ = some v := by
              intro j v hj
              have hjl := (List.getElem?_eq_some_iff.1 hj).1
              rw [hdl] at hjl
              rw [hown3.cellAt (a + j) (by omega), List.getElem?_append_left (by rw [nts_len]; omega)]
              rw [← hj]
              simp [nts]
            have HSR := Lib.hid hsrc
            have HN1 := Lib.hid (nts_one (T.drop a))
            have hwa : IntKind.i64.wrap ((a : Int) + 1) = (a : Int) + 1 := IntWalk.i64_in _ (by omega)
            have ha0 : (0 : Int) ≤ (a : Int) + 1 := by omega
            have ha1 : (a : Int) + 1 ≤ (i : Int) + 1 := by omega
            have ha2 : (a : Int) ≤ (i : Int) + 1 := by omega
            have hat : ((a : Int) + 1).toNat = a + 1 := by omega
            obtain ⟨CS, hCS⟩ : ∃ CS, CS = nts (T.drop a) := ⟨_, rfl⟩
            rw [← hCS] at HDL HSR HN1
            have HCS := Lib.hid hCS
            clear hct hspl hTl hdl hsrc hown3 hCS
            have hlen : CS.length = Nat.min (i + 1 - a) (i - a) := by rw [HDL.out]; show _ = min _ _; omega
            have hfit : a + 1 + CS.length ≤ cur.length := by rw [HDL.out]; omega
            have hbd3 : Below (h15 + 1) wo w3.drew := hb3.drew
            have hcur' : w3.drew.heap[gt]? = some (.cells cur.toArray 3 (0, 0)) := hcur
            have hsr' : ∀ j v, CS[j]? = some v → w3.drew.cell? ((⟨gt, a, none⟩ : Addr).add j) = some v := fun j v h => by rw [addr_add0]; exact HSR.out j v h
            have hne2 : ¬ c3 = a := by omega
            have HLE := Lib.hid hlen
            have HFI := Lib.hid hfit
            have HBD := Lib.hid hbd3
            have HCU := Lib.hid hcur'
            have HSD := Lib.hid hsr'
            clear hlen hfit hbd3 hcur' hcur hb3 hsr'
            by_cases hcap : c3 = a + 1
            · subst hcap
              refine wp_region_L (fun _ => True) 99 (by kernel_rfl) trivial (fun hS => ?_)
              refine wpAnyL_take 0 (v := ?_) rfl rfl (by kernel_rfl) (by kernel_rfl) (by kernel_rfl) (by kernel_rfl) (fun _ _ _ h => h) (Or.inl ⟨by rfl, ?_⟩) hS ?_; rotate_left; · intro w hSw; go_simp <;> with_reducible rfl
              try simp only [Act.put, List.setIfInBounds_toArray, List.set_cons_zero, List.set_cons_succ]
              refine wpAnyL_take 1 (v := ?_) rfl rfl (by kernel_rfl) (by kernel_rfl) (by kernel_rfl) (by kernel_rfl) (fun _ _ _ h => h) (Or.inl ⟨by rfl, ?_⟩) hS ?_; rotate_left; · intro w hSw; go_simp <;> with_reducible rfl
              try simp only [Act.put, List.setIfInBounds_toArray, List.set_cons_zero, List.set_cons_succ]
              refine wpAnyL_take 2 (v := ?_) rfl rfl (by kernel_rfl) (by kernel_rfl) (by kernel_rfl) (by kernel_rfl) (fun _ _ _ h => h) (Or.inl ⟨by rfl, ?_⟩) hS ?_; rotate_left; · intro w hSw; go_simp <;> with_reducible rfl
              try simp only [Act.put, List.setIfInBounds_toArray, List.set_cons_zero, List.set_cons_succ]
              refine wpAnyL_take 3 (v := ?_) rfl rfl (by kernel_rfl) (by kernel_rfl) (by kernel_rfl) (by kernel_rfl) (fun _ _ _ h => h) (Or.inl ⟨by rfl, ?_⟩) hS ?_; rotate_left; · intro w hSw; go_simp <;> with_reducible rfl
              try simp only [Act.put, List.setIfInBounds_toArray, List.set_cons_zero, List.set_cons_succ]
              refine wpAnyL_take 4 (v := ?_) rfl rfl (by kernel_rfl) (by kernel_rfl) (by kernel_rfl) (by kernel_rfl) (fun _ _ _ h => h) (Or.inl ⟨by rfl, ?_⟩) hS ?_; rotate_left; · intro w hSw; go_simp <;> with_reducible rfl
              try simp only [Act.put, List.setIfInBounds_toArray, List.set_cons_zero, List.set_cons_succ]
              refine wpAnyL_take 5 (v := ?_) rfl rfl (by kernel_rfl) (by kernel_rfl) (by kernel_rfl) (by kernel_rfl) (fun _ _ _ h => h) (Or.inl ⟨by rfl, ?_⟩) hS ?_; rotate_left; · intro w hSw; go_simp <;> with_reducible rfl
              try simp only [Act.put, List.setIfInBounds_toArray, List.set_cons_zero, List.set_cons_succ]
              refine wpAnyL_take 6 (v := ?_) rfl rfl (by kernel_rfl) (by kernel_rfl) (by kernel_rfl) (by kernel_rfl) (fun _ _ _ h => h) (Or.inl ⟨by rfl, ?_⟩) hS ?_; rotate_left; · intro w hSw; go_simp <;> with_reducible rfl
              try simp only [Act.put, List.setIfInBounds_toArray, List.set_cons_zero, List.set_cons_succ]
              refine wpAnyL_one 7 rfl rfl (by kernel_rfl) ?_; intro K hK
              refine step_copy_splice rfl (.tmp 109) (.tmp 112) _ _ rfl 3 rfl rfl _ _ _ _ _ _ rfl rfl gt (a + 1) cur 3 HCU.out CS (by rw [HDL.out]; show _ = min _ _; omega) (fun h => by rw [HDL.out] at h; omega) HFI.out HN1.out (h15 + 1) wo HBD.out hBg ?_
              intro w4 hg4 hb4
              refine hK.out _ _ (fun _ => trivial) ?_; clear hK K
              refine wpAnyL_done (by kernel_rfl) ?_ _
              have ho4 := HSP.out w4 (a + 1) CS (by rw [HDL.out]; omega) hg4.out
              have hb4s := hb4.size
              have hst := (ho4.stored a (.int .i64 (i : Int))).1
              have hfr := ho4.frozenAt a
              rw [HCS.out, turn_put HT.out.len hai] at hst
              have hco := ho4.cellAt a (by omega)
              obtain ⟨old, hold⟩ : ∃ old, (splice (nts T ++ [Value.int .i64 0]) (a + 1) CS)[a]? = some old := ⟨_, List.getElem?_eq_getElem (by rw [length_splice _ _ _ (by rw [List.length_append, nts_len, HT.out.len, HDL.out]; simp; omega)]; rw [List.length_append, nts_len, HT.out.len]; simp; omega)⟩
              rw [hold] at hco
              have hbz : Below (h15 + 1) wo (w4.setCell ⟨gt, a, none⟩ (.int .i64 (i : Int))) := hb4.setCell hBg _
              have HST := Lib.hid hst
              have HTN := Lib.hid (HT.out.insert (at' := a))
              clear ho4 hold hst
              go_wp2_with fail
              go_roundg (W - (i + 1))
              case measure => have := HGI.out; omega
              case rel => exact ⟨i + 1, _, _, _, by go_num, by omega, rfl, HTN, HST.out, hbz⟩
            · refine wp_region_L (fun _ => True) 99 (by kernel_rfl) trivial (fun hS => ?_)
              refine wpAnyL_take 0 (v := ?_) rfl rfl (by kernel_rfl) (by kernel_rfl) (by kernel_rfl) (by kernel_rfl) (fun _ _ _ h => h) (Or.inl ⟨by rfl, ?_⟩) hS ?_; rotate_left; · intro w hSw; go_simp <;> with_reducible rfl
              try simp only [Act.put, List.setIfInBounds_toArray, List.set_cons_zero, List.set_cons_succ]
              refine wpAnyL_take 1 (v := ?_) rfl rfl (by kernel_rfl) (by kernel_rfl) (by kernel_rfl) (by kernel_rfl) (fun _ _ _ h => h) (Or.inl ⟨by rfl, ?_⟩) hS ?_; rotate_left; · intro w hSw; go_simp <;> with_reducible rfl
              try simp only [Act.put, List.setIfInBounds_toArray, List.set_cons_zero, List.set_cons_succ]
              refine wpAnyL_take 2 (v := ?_) rfl rfl (by kernel_rfl) (by kernel_rfl) (by kernel_rfl) (by kernel_rfl) (fun _ _ _ h => h) (Or.inl ⟨by rfl, ?_⟩) hS ?_; rotate_left; · intro w hSw; go_simp <;> with_reducible rfl
              try simp only [Act.put, List.setIfInBounds_toArray, List.set_cons_zero, List.set_cons_succ]
              refine wpAnyL_take 3 (v := ?_) rfl rfl (by kernel_rfl) (by kernel_rfl) (by kernel_rfl) (by kernel_rfl) (fun _ _ _ h => h) (Or.inl ⟨by rfl, ?_⟩) hS ?_; rotate_left; · intro w hSw; go_simp <;> with_reducible rfl
              try simp only [Act.put, List.setIfInBounds_toArray, List.set_cons_zero, List.set_cons_succ]
              refine wpAnyL_take 4 (v := ?_) rfl rfl (by kernel_rfl) (by kernel_rfl) (by kernel_rfl) (by kernel_rfl) (fun _ _ _ h => h) (Or.inl ⟨by rfl, ?_⟩) hS ?_; rotate_left; · intro w hSw; go_simp <;> with_reducible rfl
              try simp only [Act.put, List.setIfInBounds_toArray, List.set_cons_zero, List.set_cons_succ]
              refine wpAnyL_take 5 (v := ?_) rfl rfl (by kernel_rfl) (by kernel_rfl) (by kernel_rfl) (by kernel_rfl) (fun _ _ _ h => h) (Or.inl ⟨by rfl, ?_⟩) hS ?_; rotate_left; · intro w hSw; go_simp <;> with_reducible rfl
              try simp only [Act.put, List.setIfInBounds_toArray, List.set_cons_zero, List.set_cons_succ]
              refine wpAnyL_take 6 (v := ?_) rfl rfl (by kernel_rfl) (by kernel_rfl) (by kernel_rfl) (by kernel_rfl) (fun _ _ _ h => h) (Or.inl ⟨by rfl, ?_⟩) hS ?_; rotate_left; · intro w hSw; go_simp <;> with_reducible rfl
              try simp only [Act.put, List.setIfInBounds_toArray, List.set_cons_zero, List.set_cons_succ]
              refine wpAnyL_one 7 rfl rfl (by kernel_rfl) ?_; intro K hK
              refine step_copy_splice rfl (.tmp 109) (.tmp 112) _ _ rfl 3 rfl rfl (some ⟨gt, a + 1, none⟩) (some ⟨gt, a, none⟩) (i - a) (c3 - (a + 1)) (i + 1 - a) (c3 - a) rfl rfl gt (a + 1) cur 3 HCU.out CS HLE.out (fun _ => ⟨rfl, _, rfl, HSD.out⟩) HFI.out HN1.out (h15 + 1) wo HBD.out hBg ?_
              intro w4 hg4 hb4
              refine hK.out _ _ (fun _ => trivial) ?_; clear hK K
              refine wpAnyL_done (by kernel_rfl) ?_ _
              have ho4 := HSP.out w4 (a + 1) CS (by rw [HDL.out]; omega) hg4.out
              have hb4s := hb4.size
              have hst := (ho4.stored a (.int .i64 (i : Int))).1
              have hfr := ho4.frozenAt a
              rw [HCS.out, turn_put HT.out.len hai] at hst
              have hco := ho4.cellAt a (by omega)
              obtain ⟨old, hold⟩ : ∃ old, (splice (nts T ++ [Value.int .i64 0]) (a + 1) CS)[a]? = some old := ⟨_, List.getElem?_eq_getElem (by rw [length_splice _ _ _ (by rw [List.length_append, nts_len, HT.out.len, HDL.out]; simp; omega)]; rw [List.length_append, nts_len, HT.out.len]; simp; omega)⟩
              rw [hold] at hco
              have hbz : Below (h15 + 1) wo (w4.setCell ⟨gt, a, none⟩ (.int .i64 (i : Int))) := hb4.setCell hBg _
              have HST := Lib.hid hst
              have HTN := Lib.hid (HT.out.insert (at' := a))
              clear ho4 hold hst
              go_wp2_with fail
              go_roundg (W - (i + 1))
              case measure => have := HGI.out; omega
              case rel => exact ⟨i + 1, _, _, _, by go_num, by omega, rfl, HTN, HST.out, hbz⟩
        · obtain rfl : W = i := by omega
          have hd1 : decide ((W : Int) < (W : Int)) = false := by simp
          have hd2 : decide (W < W) = false := by simp
          obtain ⟨gt, rfl, _, hcw, hcw63⟩ := own_ptr ho (by omega)
          have hgt1 : h15 + 1 ≤ gt := (ho.lt gt rfl).1
          have hne1 : some h15 ≠ some gt := fun e => by injection e; omega
          have hne2 : some h15 ≠ some g := fun e => by injection e; omega
          have hbs' := hb.size
          have HT6 := Lib.hid ho
          have HX6 := Lib.hid (HB5.out.later hb (by omega))
          have HY6 := Lib.hid (Y5.out.later hb (by omega))
          have HS6 := Lib.hid (own_later HS5.out (hb.mono (by omega)))
          have hTl := HT.out.len
          have HTL := Lib.hid hTl
          clear ho hb HB5 Y5 HS5 hTl hbs hs5
          go_wp2_with fail
          obtain ⟨w6, rfl⟩ : ∃ w6 : World, w6 = wr := ⟨_, rfl⟩
          go_loopg [20] W (fun gk v20 wr => ∃ (t : Nat) (p : Option Addr) (c : Nat) (rs : List Rp) (l : List (Rp × Value × Value)), v20 = .int .i64 (t : Int) ∧ t + gk = W ∧ Bx wr h15 [.int .i64 (W : Int), .int .i64 2, .int .i64 3, .slice p rs.length c] ∧ Hid (l.map (·.1) = rs ∧ rs = repsL L W out off (T.take t)) ∧ OwnBd wr (h15 + 1) (.slice p rs.length c) rs.length l ∧ w6.grownBy wr (some h15))
          case atStart => exact ⟨0, none, 0, [], [], rfl, by omega, HX6.out, Lib.hid ⟨rfl, rfl⟩, OwnBd.nil _ _, World.grownBy.refl _ _⟩
          case round =>
            clear HX6
            obtain ⟨t, p, c, rs, l, rfl, hgt', HX, HRS, hO, hg⟩ := hrel
            have HGT := Lib.hid hgt'
            have ht : t ≤ W := by omega
            clear hgt'
            have hbw6 := hbw.grown hg hbw.size (fun k hk => by cases hk; omega)
            have HTr := Lib.hid (own_grown HT6.out hg (fun k hk => by cases hk; exact hne1))
            have HYr := Lib.hid (HY6.out.grown hg (fun e => by cases e; omega))
            have HSr := Lib.hid (own_grown HS6.out hg (fun k hk => by cases hk; exact hne2))
            by_cases htW : t < W
            · have ht0 : (0 : Int) ≤ (t : Int) := by omega
              have htW' : (t : Int) < (W : Int) := by omega
              have hd3 : decide ((t : Int) < (W : Int)) = true := by simp; omega
              have hd4 : decide (t < W) = true := by simp; omega
              have htl : t < T.length := by rw [HTL.out]; exact htW
              have hco := HTr.out.cellAt t (by omega)
              rw [nts_at htl] at hco
              have hiW : T[t] < W := HT.out.lt _ (List.getElem_mem htl)
              by_cases hio : T[t] = out
              · have hsk := Lib.hid (repsL_skip (L := L) (W := W) (off := off) htl hio)
                rw [hio] at hco
                go_wp2_with fail
                go_roundg (W - (t + 1))
                case measure => have := HGT.out; omega
                case rel => exact ⟨t + 1, p, c, rs, l, by go_num, by omega, HX, Lib.hid ⟨HRS.out.1, by rw [hsk.out]; exact HRS.out.2⟩, hO, hg⟩
              · have hsk := Lib.hid (repsL_take (L := L) (W := W) (off := off) htl hio)
                have hnw := Lib.hid (repsL_new (L := L) (W := W) (out := out) (off := off) HT.out htl)
                generalize T[t] = i at *
                have hio' : ¬ ((i : Int) = (out : Int)) := by omega
                have hi0 : (0 : Int) ≤ (i : Int) := by omega
                have HXr := Lib.hid HX
                have HOr := Lib.hid hO
                clear HX hO
                go_upto_if 135 with fail
                have hbx := Lib.hid (show Bx (wr.alloc (.cells #[.int .i64 (i : Int), .int .i64 2, .int .i64 3, .slice none 0 0, .slice none 0 0, .int .i64 0, .int .i64 0] 61)) wr.heap.size [.int .i64 (i : Int), .int .i64 2, .int .i64 3, .slice none 0 0, .slice none 0 0, .int .i64 0, .int .i64 0] from bx_new wr _ _)
                have hba := Lib.hid (alloc_below wr (.cells #[.int .i64 (i : Int), .int .i64 2, .int .i64 3, .slice none 0 0, .slice none 0 0, .int .i64 0, .int .i64 0] 61))
                have hsa : (wr.alloc (.cells #[.int .i64 (i : Int), .int .i64 2, .int .i64 3, .slice none 0 0, .slice none 0 0, .int .i64 0, .int .i64 0] 61)).heap.size = wr.heap.size + 1 := by simp
                generalize (wr.alloc (.cells #[.int .i64 (i : Int), .int .i64 2, .int .i64 3, .slice none 0 0, .slice none 0 0, .int .i64 0, .int .i64 0] 61)) = wa at *
                go_cut [] (fun wx => Bx wx wr.heap.size [.int .i64 (i : Int), .int .i64 2, .int .i64 3, .slice none 0 0, .slice none 0 0, .int .i64 ((waO L i : Nat) : Int), .int .i64 ((opO L i : Nat) : Int)] ∧ Below wr.heap.size wr wx ∧ wr.heap.size + 1 ≤ wx.heap.size)
                case first =>
                  by_cases hiL : i < L.length
                  · have hd5 : decide ((i : Int) < (L.length : Int)) = true := by simp; omega
                    have hd6 : decide (i < L.length) = true := by simp; omega
                    have hiL' : (i : Int) < (L.length : Int) := by omega
                    obtain ⟨b, of, q, d, rfl, _, hw1, hw2, _, hr1, hr2⟩ := HL.out.get hiL
                    have hbb0 := World.block_lt_of_cell? w _ hw1
                    have hba2 := hbw6.trans (hba.out.mono hbw6.size)
                    have hc1 := (hba2.cell (p := ⟨b, of + i * 3 + 1, none⟩) hbb0).trans hw1
                    have hc2 := (hba2.cell (p := ⟨b, of + i * 3 + 1 + 1, none⟩) hbb0).trans hw2
                    have hn1 : ¬ b = wr.heap.size := by have := hbw6.size; show ¬ b = _; change b < _ at hbb0; omega
                    have hn2 : ¬ wr.heap.size = b := fun e => hn1 e.symm
                    clear hw1 hw2 hbb0 hba2
                    have e1 : waO L i = pickN (L[i].2.1) 5 := by unfold waO; rw [dif_pos hiL]
                    have e2 : opO L i = pickN (L[i].2.2) 5 := by unfold opO; rw [dif_pos hiL]
                    have HPK := Lib.hid (fun (y : Int) (hy : InI y) W' => picked_i y 5 5 W' rfl hy.1 hy.2 (by omega) (by omega))
                    have HZ := Lib.hid (And.intro e1 e2)
                    have HR1 := Lib.hid hr1
                    have HR2 := Lib.hid hr2
                    clear e1 e2 hr1 hr2
                    generalize L[i].2.1 = y1 at *
                    generalize L[i].2.2 = y2 at *
                    obtain ⟨⟨ht0, ht1, ht2, ht3, ht4, ht5, ht6⟩, hf0, hf1, hf2, hf3, hf4, hf5, hf6⟩ := hbx.out.seven
                    go_wp2_with (go_at_call 17; refine (HPK.out _ (by first | exact HR1.out | exact HR2.out) _).mono ?_; rintro e w' ⟨rfl, rfl⟩)
                    go_meet
                    case rel => rw [HZ.out.1, HZ.out.2]; exact ⟨(hbx.out.setc 5 _).setc 6 _, (hba.out.setCell (by simp) _).setCell (by simp) _, by simp; omega⟩
                  · have hd5 : decide ((i : Int) < (L.length : Int)) = false := by simp; omega
                    have hd6 : decide (i < L.length) = false := by simp; omega
                    have e1 : waO L i = 0 := by unfold waO; rw [dif_neg hiL]
                    have e2 : opO L i = 0 := by unfold opO; rw [dif_neg hiL]
                    have HE := Lib.hid (And.intro e1 e2)
                    clear e1 e2
                    go_wp2_with fail
                    go_meet
                    case rel => rw [HE.out.1, HE.out.2]; exact ⟨hbx.out, hba.out, by omega⟩
                case rest =>
                  obtain ⟨hbx, hbx2, hsx⟩ := hcut
                  have HMc := Lib.hid (own_later HSr.out hbx2)
                  obtain ⟨m1, hm1⟩ : ∃ m, m = i * W := ⟨_, rfl⟩
                  have hm1Q : m1 + W ≤ Q := by
                    have h1 := ik_lt (W := W) (i := i) (k := W - 1) hiW (by omega)
                    rw [HQ.out, hm1]; omega
                  have hmul1 : (i : Int) * (W : Int) = (m1 : Int) := by rw [hm1]; push_cast; rfl
                  have HM1 := Lib.hid hm1
                  clear hm1
                  have hgh : g < wr.heap.size := (HSr.out.lt g rfl).2
                  go_wp2_with fail
                  obtain ⟨wp, rfl⟩ : ∃ wp : World, wp = wr := ⟨_, rfl⟩
                  go_loopg [23] W (fun gk v23 wr => ∃ (k : Nat) (ps pg : Option Addr) (cs cg : Nat), v23 = .int .i64 (k : Int) ∧ k + gk = W ∧ Bx wr wp.heap.size [.int .i64 (i : Int), .int .i64 2, .int .i64 3, .slice ps k cs, .slice pg k cg, .int .i64 ((waO L i : Nat) : Int), .int .i64 ((opO L i : Nat) : Int)] ∧ wr.ownsRow (wp.heap.size + 1) 3 1 (.slice ps k cs) k (nts ((List.range k).map (snt L i))) ∧ wr.ownsRow (wp.heap.size + 1) 3 1 (.slice pg k cg) k (nts ((List.range k).map (gtN L W off i))) ∧ (∀ b, (Value.slice ps k cs).ownBlock = some b → (Value.slice pg k cg).ownBlock ≠ some b) ∧ Below wp.heap.size wp wr ∧ wp.heap.size + 1 ≤ wr.heap.size)
                  case atStart => exact ⟨0, none, none, 0, 0, rfl, by omega, hbx, World.ownsRow_nil _ _ _ _, World.ownsRow_nil _ _ _ _, (fun b hb => by cases hb), hbx2, hsx⟩
                  case round =>
                    clear hbx hbx2 hsx
                    obtain ⟨k, ps, pg, cs, cg, rfl, hgk, hbx, hos, hog, hsep, hbq, hsq⟩ := hrel
                    have HGK := Lib.hid hgk
                    have hk : k ≤ W := by omega
                    clear hgk
                    have HMq := Lib.hid (own_later HSr.out hbq)
                    by_cases hkW : k < W
                    · have hk0 : (0 : Int) ≤ (k : Int) := by omega
                      have hkW' : (k : Int) < (W : Int) := by omega
                      have hd5 : decide ((k : Int) < (W : Int)) = true := by simp; omega
                      have hd6 : decide (k < W) = true := by simp; omega
                      obtain ⟨m2, hm2⟩ : ∃ m, m = k * W := ⟨_, rfl⟩
                      have hm2Q : m2 + W ≤ Q := by
                        have h1 := ik_lt (W := W) (i := k) (k := W - 1) hkW (by omega)
                        rw [HQ.out, hm2]; omega
                      have hmul2 : (k : Int) * (W : Int) = (m2 : Int) := by rw [hm2]; push_cast; rfl
                      have HMF := Lib.hid (mat_full (L := L) hiW hkW)
                      have HMB := Lib.hid (mat_full (L := L) hkW hiW)
                      rw [← HM1.out] at HMF
                      rw [← hm2] at HMB
                      have HM2 := Lib.hid hm2
                      clear hm2
                      have hmk0 : (0 : Int) ≤ (m1 : Int) + (k : Int) := by omega
                      have hmkQ : (m1 : Int) + (k : Int) < (Q : Int) := by omega
                      have hmkt : ((m1 : Int) + (k : Int)).toNat = m1 + k := by omega
                      have hnk0 : (0 : Int) ≤ (m2 : Int) + (i : Int) := by omega
                      have hnkQ : (m2 : Int) + (i : Int) < (Q : Int) := by omega
                      have hnkt : ((m2 : Int) + (i : Int)).toNat = m2 + i := by omega
                      have hwq1 : IntKind.i64.wrap (m1 : Int) = (m1 : Int) := IntWalk.i64_in _ (by omega)
                      have hwq2 : IntKind.i64.wrap (m2 : Int) = (m2 : Int) := IntWalk.i64_in _ (by omega)
                      have hwq3 : IntKind.i64.wrap ((m1 : Int) + (k : Int)) = (m1 : Int) + (k : Int) := IntWalk.i64_in _ (by omega)
                      have hwq4 : IntKind.i64.wrap ((m2 : Int) + (i : Int)) = (m2 : Int) + (i : Int) := IntWalk.i64_in _ (by omega)
                      go_upto_region 34 with fail
                      have hXd : Bx wr.drew wp.heap.size [.int .i64 (i : Int), .int .i64 2, .int .i64 3, .slice ps k cs, .slice pg k cg, .int .i64 ((waO L i : Nat) : Int), .int .i64 ((opO L i : Nat) : Int)] := hbx
                      have hsd := own_drew hos
                      have hod := own_drew hog
                      have hgd := own_drew HMq.out
                      have hsepd := hsep
                      have hng : (Value.slice ps k cs).ownBlock ≠ some g := own_far hos (show g < wp.heap.size + 1 by omega)
                      obtain ⟨⟨_, _, _, hy3, _⟩, _⟩ := hXd.seven
                      have hcg := hgd.cellAt (m1 + k) (by omega)
                      rw [nts_some HMF.out] at hcg
                      have hdz : wr.drew.heap.size = wr.heap.size := rfl
                      obtain ⟨S, hSI⟩ : ∃ S : World → Prop, ∀ w', S w' ↔ (w'.cell? ⟨wp.heap.size, 3, none⟩ = some (Value.slice ps k cs) ∧ w'.cell? ⟨g, m1 + k, none⟩ = some (.int .i64 ((snt L i k : Nat) : Int))) := ⟨fun w' => _, fun w' => Iff.rfl⟩
                      have HSI := Lib.hid hSI
                      clear hSI
                      refine wp_region_L S 13 (by kernel_rfl) ((HSI.out _).2 ⟨hy3, hcg⟩) (fun hS => ?_)
                      clear hy3 hcg
                      refine wpAnyL_take 0 (v := ?_) rfl rfl (by kernel_rfl) (by kernel_rfl) (by kernel_rfl) (by kernel_rfl) (fun _ _ _ h => h) (Or.inl ⟨by rfl, ?_⟩) hS ?_; rotate_left; · intro w hSw; go_simp <;> with_reducible rfl
                      try simp only [Act.put, List.setIfInBounds_toArray, List.set_cons_zero, List.set_cons_succ]
                      refine wpAnyL_take 1 (v := ?_) rfl rfl (by kernel_rfl) (by kernel_rfl) (by kernel_rfl) (by kernel_rfl) (fun _ _ _ h => h) (Or.inl ⟨by rfl, ?_⟩) hS ?_; rotate_left; · intro w hSw; obtain ⟨hz0, hz1⟩ := (HSI.out w).1 hSw; go_simp <;> with_reducible rfl
                      try simp only [Act.put, List.setIfInBounds_toArray, List.set_cons_zero, List.set_cons_succ]
                      refine wpAnyL_take 2 (v := ?_) rfl rfl (by kernel_rfl) (by kernel_rfl) (by kernel_rfl) (by kernel_rfl) (fun _ _ _ h => h) (Or.inl ⟨by rfl, ?_⟩) hS ?_; rotate_left; · intro w hSw; go_simp <;> with_reducible rfl
                      try simp only [Act.put, List.setIfInBounds_toArray, List.set_cons_zero, List.set_cons_succ]
                      refine wpAnyL_take 3 (v := ?_) rfl rfl (by kernel_rfl) (by kernel_rfl) (by kernel_rfl) (by kernel_rfl) (fun _ _ _ h => h) (Or.inl ⟨by rfl, ?_⟩) hS ?_; rotate_left; · intro w hSw; go_simp <;> with_reducible rfl
                      try simp only [Act.put, List.setIfInBounds_toArray, List.set_cons_zero, List.set_cons_succ]
                      refine wpAnyL_take 4 (v := ?_) rfl rfl (by kernel_rfl) (by kernel_rfl) (by kernel_rfl) (by kernel_rfl) (fun _ _ _ h => h) (Or.inl ⟨by rfl, ?_⟩) hS ?_; rotate_left; · intro w hSw; go_simp <;> with_reducible rfl
                      try simp only [Act.put, List.setIfInBounds_toArray, List.set_cons_zero, List.set_cons_succ]
                      refine wpAnyL_take 5 (v := ?_) rfl rfl (by kernel_rfl) (by kernel_rfl) (by kernel_rfl) (by kernel_rfl) (fun _ _ _ h => h) (Or.inl ⟨by rfl, ?_⟩) hS ?_; rotate_left; · intro w hSw; go_simp <;> with_reducible rfl
                      try simp only [Act.put, List.setIfInBounds_toArray, List.set_cons_zero, List.set_cons_succ]
                      refine wpAnyL_take 6 (v := ?_) rfl rfl (by kernel_rfl) (by kernel_rfl) (by kernel_rfl) (by kernel_rfl) (fun _ _ _ h => h) (Or.inl ⟨by rfl, ?_⟩) hS ?_; rotate_left; · intro w hSw; go_simp <;> with_reducible rfl
                      try simp only [Act.put, List.setIfInBounds_toArray, List.set_cons_zero, List.set_cons_succ]
                      refine wpAnyL_take 7 (v := ?_) rfl rfl (by kernel_rfl) (by kernel_rfl) (by kernel_rfl) (by kernel_rfl) (fun _ _ _ h => h) (Or.inl ⟨by rfl, ?_⟩) hS ?_; rotate_left; · intro w hSw; go_simp <;> with_reducible rfl
                      try simp only [Act.put, List.setIfInBounds_toArray, List.set_cons_zero, List.set_cons_succ]
                      refine wpAnyL_take 8 (v := ?_) rfl rfl (by kernel_rfl) (by kernel_rfl) (by kernel_rfl) (by kernel_rfl) (fun _ _ _ h => h) (Or.inl ⟨by rfl, ?_⟩) hS ?_; rotate_left; · intro w hSw; go_simp <;> with_reducible rfl
                      try simp only [Act.put, List.setIfInBounds_toArray, List.set_cons_zero, List.set_cons_succ]
                      refine wpAnyL_take 9 (v := ?_) rfl rfl (by kernel_rfl) (by kernel_rfl) (by kernel_rfl) (by kernel_rfl) (fun _ _ _ h => h) (Or.inl ⟨by rfl, ?_⟩) hS ?_; rotate_left; · intro w hSw; obtain ⟨hz0, hz1⟩ := (HSI.out w).1 hSw; go_simp <;> with_reducible rfl
                      try simp only [Act.put, List.setIfInBounds_toArray, List.set_cons_zero, List.set_cons_succ]
                      refine wpAnyL_one 10 rfl rfl (by kernel_rfl) ?_; intro K hK; rw [if_pos (by rfl)]
                      go_simp
                      have hB7 := hXd.alloc (.cells #[.int .i64 ((snt L i k : Nat) : Int)] 3)
                      have hcg7 := (hgd.alloc (.cells #[.int .i64 ((snt L i k : Nat) : Int)] 3)).cellAt (m1 + k) (by omega)
                      rw [nts_some HMF.out] at hcg7
                      obtain ⟨_, _, _, hq3, _⟩ := hB7.seven.1
                      have hS := (HSI.out _).2 ⟨hq3, hcg7⟩
                      refine hK.out _ _ (fun _ => hS) ?_; clear hK K hq3 hcg7
                      try simp only [Act.put, List.setIfInBounds_toArray, List.set_cons_zero, List.set_cons_succ]
                      refine wpAnyL_one 11 rfl rfl (by kernel_rfl) ?_; intro K hK; rw [if_pos (by rfl)]
                      refine wp_app_op (.tmp 156) (.tmp 165) _ rfl (wp.heap.size + 1) 3 rfl inf_int rfl (by decide) rfl (hsd.alloc _) rfl (news := [.int .i64 ((snt L i k : Nat) : Int)]) (sl_new _ [.int .i64 ((snt L i k : Nat) : Int)] 3) (by simp [Value.oneCell']) (by unfold maxLen; omega) (by omega) (Below.refl _ _) (by simp; omega) ?_
                      intro p7 c7 w7 hown7 hb7 hs7 hg7 hnb7
                      clear hS
                      have hB8 := hB7.grown hg7 (own_far hsd (by omega))
                      have hG8 := own_grown (hod.alloc _) hg7 (fun j hj e => hsepd j e hj)
                      have hM8 := own_grown (hgd.alloc _) hg7 (fun j hj e => by cases hj; exact hng e)
                      have hcg8 := hM8.cellAt (m1 + k) (by omega)
                      rw [nts_some HMF.out] at hcg8
                      obtain ⟨⟨_, _, _, hq3, _⟩, _, _, _, hqf, _⟩ := hB8.seven
                      have hS := (HSI.out _).2 ⟨hq3, hcg8⟩
                      refine hK.out _ _ (fun _ => hS) ?_; clear hK K
                      try simp only [Act.put, List.setIfInBounds_toArray, List.set_cons_zero, List.set_cons_succ]
                      refine wpAnyL_take 12 (v := ?_) rfl rfl (by kernel_rfl) (by kernel_rfl) (by kernel_rfl) (by kernel_rfl) (fun _ _ _ h => h) (Or.inl ⟨by rfl, ?_⟩) hS ?_; rotate_left; · intro w hSw; go_simp <;> with_reducible rfl
                      try simp only [Act.put, List.setIfInBounds_toArray, List.set_cons_zero, List.set_cons_succ]
                      refine wpAnyL_one 13 rfl rfl (by kernel_rfl) ?_; intro K hK; rw [if_pos (by rfl)]
                      go_simp
                      refine hK.out _ _ (fun h => absurd rfl h) ?_; clear hK K
                      refine wpAnyL_done (by kernel_rfl) ?_ _
                      have hX9 : Bx (w7.setCell ⟨wp.heap.size, 3, none⟩ (.slice p7 (k + 1) c7)) wp.heap.size [.int .i64 (i : Int), .int .i64 2, .int .i64 3, .slice p7 (k + 1) c7, .slice pg k cg, .int .i64 ((waO L i : Nat) : Int), .int .i64 ((opO L i : Nat) : Int)] := hB8.setc 3 _
                      have hos9 := own_setCell hown7 (a := ⟨wp.heap.size, 3, none⟩) (by show wp.heap.size < _; omega) (.slice p7 (k + 1) c7)
                      have hog9 := own_setCell hG8 (a := ⟨wp.heap.size, 3, none⟩) (by show wp.heap.size < _; omega) (.slice p7 (k + 1) c7)
                      have hbq7 : Below wp.heap.size wp w7 := hbq.drew.trans (((alloc_below _ _).mono (by omega)).trans (hb7.mono (by omega)))
                      have hbq9 : Below wp.heap.size wp (w7.setCell ⟨wp.heap.size, 3, none⟩ (.slice p7 (k + 1) c7)) := hbq7.setCell (Nat.le_refl _) _
                      have hsz9 : wp.heap.size + 1 ≤ (w7.setCell ⟨wp.heap.size, 3, none⟩ (.slice p7 (k + 1) c7)).heap.size := by simp; exact hs7
                      have hsep9 := sep_new (hod.alloc _) hsepd (by rcases hnb7 with h | h; exact .inl h; exact .inr ⟨_, Nat.le_refl _, h⟩)
                      rw [← nts_row] at hos9
                      have HOS := Lib.hid hos9
                      clear hS hq3 hqf hB7 hB8 hM8 hcg8 hG8 hown7 hb7 hs7 hg7 hnb7 hbq7 hos9 hXd hsd hod hgd hsepd hdz
                      generalize (w7.setCell ⟨wp.heap.size, 3, none⟩ (.slice p7 (k + 1) c7)) = w9 at *
                      have HX9 := Lib.hid hX9
                      have hcb := (own_later HSr.out hbq9).cellAt (m2 + i) (by omega)
                      rw [nts_some HMB.out] at hcb
                      obtain ⟨⟨_, _, _, _, hu4, _⟩, _⟩ := hX9.seven
                      have hsl := snt_lt L k i
                      have HBE := Lib.hid (show Below (wp.heap.size + 1) wp wp from Below.refl _ _)
                      have hgn : gtN L W off i k = snt L k i + if ((k * W + i : Nat) : Int) = off then 1 else 0 := rfl
                      rw [← HM2.out] at hgn
                      have HGN := Lib.hid hgn
                      clear hX9 hgn
                      generalize snt L k i = y at *
                      by_cases hoff : (m2 : Int) + (i : Int) = off
                      · have hof2 : ((m2 : Int) + (i : Int) == off) = true := by simp; omega
                        have HOFF := Lib.hid hoff
                        clear hoff
                        have hwy : IntKind.i64.wrap ((y : Int) + 1) = (y : Int) + 1 := IntWalk.i64_in _ (by omega)
                        go_wp2_with (at_builtin; refine wp_app1h (w0 := w9) rfl (.tmp 186) (.tmp 188) _ rfl (wp.heap.size + 1) 3 rfl inf_int rfl (by decide) rfl hog9 (us := [.int .i64 ((y : Int) + 1)]) rfl rfl rfl (by simp [Value.oneCell']) (by unfold maxLen; omega) (by omega) (Below.refl _ _) hsz9 ?_; intro p8 c8 w8 hown8 hb8 hs8 hg8 hnb8; obtain ⟨⟨_, _, _, _, hv4, _⟩, _, _, _, _, hvf, _⟩ := (HX9.out.grown hg8 (own_far hog9 (by omega))).seven; have HX10 := Lib.hid (HX9.out.grown hg8 (own_far hog9 (by omega))); have HS10 := Lib.hid (own_grown HOS.out hg8 (fun j hj e => hsep9 j hj e)); have HD10 := Lib.hid (sep_new HOS.out (fun b hb hb' => hsep9 b hb' hb) hnb8); have HB10 := Lib.hid (hbq9.grown hg8 (by omega) (fun j e => by have := (hog9.lt j e).1; omega)); have HO10 := Lib.hid hown8)
                        rw [show nts ((List.range k).map (gtN L W off i)) ++ [Value.int .i64 ((y : Int) + 1)] = nts ((List.range (k + 1)).map (gtN L W off i)) by rw [nts_row, HGN.out, if_pos (by push_cast; exact HOFF.out)]; push_cast; rfl] at HO10
                        go_roundg (W - (k + 1))
                        case measure => have := HGK.out; omega
                        case rel => exact ⟨k + 1, p7, p8, c7, c8, by go_num, by omega, HX10.out.setc 4 _, own_setCell HS10.out (by simp) _, own_setCell HO10.out (by simp) _, fun b hb hb' => HD10.out b hb' hb, HB10.out.setCell (Nat.le_refl _) _, by simp; exact hs8⟩
                      · have hof2 : ((m2 : Int) + (i : Int) == off) = false := by simp; omega
                        go_wp2_with (at_builtin; refine wp_app1h (w0 := w9) rfl (.tmp 186) (.tmp 188) _ rfl (wp.heap.size + 1) 3 rfl inf_int rfl (by decide) rfl hog9 (us := [.int .i64 (y : Int)]) rfl rfl rfl (by simp [Value.oneCell']) (by unfold maxLen; omega) (by omega) (Below.refl _ _) hsz9 ?_; intro p8 c8 w8 hown8 hb8 hs8 hg8 hnb8; obtain ⟨⟨_, _, _, _, hv4, _⟩, _, _, _, _, hvf, _⟩ := (HX9.out.grown hg8 (own_far hog9 (by omega))).seven; have HX10 := Lib.hid (HX9.out.grown hg8 (own_far hog9 (by omega))); have HS10 := Lib.hid (own_grown HOS.out hg8 (fun j hj e => hsep9 j hj e)); have HD10 := Lib.hid (sep_new HOS.out (fun b hb hb' => hsep9 b hb' hb) hnb8); have HB10 := Lib.hid (hbq9.grown hg8 (by omega) (fun j e => by have := (hog9.lt j e).1; omega)); have HO10 := Lib.hid hown8)
                        rw [show nts ((List.range k).map (gtN L W off i)) ++ [Value.int .i64 (y : Int)] = nts ((List.range (k + 1)).map (gtN L W off i)) by rw [nts_row, HGN.out, if_neg (by push_cast; exact hoff), Nat.add_zero]] at HO10
                        go_roundg (W - (k + 1))
                        case measure => have := HGK.out; omega
                        case rel => exact ⟨k + 1, p7, p8, c7, c8, by go_num, by omega, HX10.out.setc 4 _, own_setCell HS10.out (by simp) _, own_setCell HO10.out (by simp) _, fun b hb hb' => HD10.out b hb' hb, HB10.out.setCell (Nat.le_refl _) _, by simp; exact hs8⟩
                    · obtain rfl : W = k := by omega
                      have hd5 : decide ((W : Int) < (W : Int)) = false := by simp
                      have hd6 : decide (W < W) = false := by simp
                      have hsW : (repF L W off i).sent.length = W := by simp [repF]
                      have hgW : (repF L W off i).got.length = W := by simp [repF]
                      have hrv : ∀ W', Below wr.heap.size wr W' → RpV W' (repF L W off i) (.slice ps W cs) (.slice pg W cg) := fun W' hb' => ⟨by rw [hsW]; exact Sl.of_own (own_later hos hb'), by rw [hgW]; exact Sl.of_own (own_later hog hb')⟩
                      have hnr := repF_now L W off hiW
                      have hib : ∀ W', Below wr.heap.size wr W' → IsBd W' (.slice p rs.length c) rs := fun W' hb' => by
                        have h := (HOr.out.later (hbq.trans (hb'.mono (by omega)))).isBd
                        rw [HRS.out.1] at h
                        exact h
                      have hbd : BdOk W rs := by rw [HRS.out.2]; exact repsL_bd HT.out
                      have hnew : ∀ x ∈ rs, x.wk ≠ (repF L W off i).wk := by rw [HRS.out.2]; exact hnw.out
                      have HHR := Lib.hid (fun W' (hb' : Below wr.heap.size wr W') => hear_ok W c p rs (repF L W off i) (.slice ps W cs) (.slice pg W cg) W' (hib W' hb') hbd hnr hnew (hrv W' hb') hW1 (by omega))
                      have hl1 : (rs ++ [repF L W off i]).length = rs.length + 1 := by simp
                      have HRS2 := Lib.hid (show rs ++ [repF L W off i] = repsL L W out off (T.take (t + 1)) by rw [hsk.out, ← HRS.out.2])
                      have h15w : h15 < wp.heap.size := HXr.out.lt
                      have hXw := HXr.out.later (hbq.mono (Nat.le_refl _)) h15w
                      clear hib hbd hnew hnr hsW hgW hrv
                      unfold rpC at HHR
                      obtain ⟨rs2, hrs2⟩ : ∃ rs2, rs2 = rs ++ [repF L W off i] := ⟨_, rfl⟩
                      have HH2 : Hid (∀ W' : World, Below wr.heap.size wr W' → Calls Try.prog 24 #[.agg #[.int .i64 (W : Int), .int .i64 2, .int .i64 3, .slice p rs.length c], .agg #[.int .i64 (i : Int), .int .i64 2, .int .i64 3, .slice ps W cs, .slice pg W cg, .int .i64 ((waO L i : Nat) : Int), .int .i64 ((opO L i : Nat) : Int)]] W' fun e w' => ∃ p' c' l, e = .returned (.tuple #[.agg #[.int .i64 (W : Int), .int .i64 2, .int .i64 3, .slice p' rs2.length c'], .int .i64 0]) ∧ Hid (l.map (·.1) = rs2) ∧ OwnBd w' W'.heap.size (.slice p' rs2.length c') rs2.length l ∧ Below W'.heap.size W' w') := Lib.hid (by rw [hrs2]; exact fun W' hb' => HHR.out W' hb')
                      rw [← hrs2] at HRS2
                      clear HHR hrs2
                      obtain ⟨⟨ht0, ht1, ht2, ht3, ht4, ht5, ht6⟩, _⟩ := hbx.seven
                      obtain ⟨hx0, hx1, hx2, hx3, _, _, _, _⟩ := hXw.four
                      go_wp2_with fail
                      refine (HH2.out _ (Below.refl _ _)).mono ?_; rintro e w9 ⟨p9, c9, l9, rfl, hl9, ho9, hb9⟩
                      have hz9 := hb9.size
                      have hX9 := (hXw.next hb9).alloc (.cells #[.int .i64 (W : Int), .int .i64 2, .int .i64 3, .slice p9 rs2.length c9] 56)
                      obtain ⟨hy0, hy1, hy2, hy3, hf0, hf1, hf2, hf3⟩ := hX9.four
                      have hn9 : ¬ h15 = w9.heap.size := by omega
                      have hn9' : ¬ w9.heap.size = h15 := by omega
                      have hO9 := (ho9.mono (B' := h15 + 1) (by omega)).later (alloc_below w9 (.cells #[.int .i64 (W : Int), .int .i64 2, .int .i64 3, .slice p9 rs2.length c9] 56))
                      have hg9 : w6.grownBy (w9.alloc (.cells #[.int .i64 (W : Int), .int .i64 2, .int .i64 3, .slice p9 rs2.length c9] 56)) (some h15) := grown_trans hg (grown_trans (grown_belowS hbq) (grown_trans (grown_belowS hb9) (grown_belowS (alloc_below _ _))))
                      clear ht0 ht1 ht2 ht3 ht4 ht5 ht6 hx0 hx1 hx2 hx3
                      go_wp2_with fail
                      go_roundg (W - (t + 1))
                      case measure => have := HGT.out; omega
                      case rel =>
                        refine ⟨t + 1, p9, c9, rs2, l9, by go_num, by omega, (((hX9.setc 0 _).setc 1 _).setc 2 _).setc 3 _, Lib.hid ⟨hl9.out, HRS2.out⟩, ?_, ?_⟩
                        · iterate 4 (refine OwnBd.setCell ?_ (by simp) _)
                          exact hO9
                        · exact grown_trans hg9 (grown_trans grown_set (grown_trans grown_set (grown_trans grown_set grown_set)))
            · obtain rfl : W = t := by omega
              have hd3 : decide ((W : Int) < (W : Int)) = false := by simp
              have hd4 : decide (W < W) = false := by simp
              obtain ⟨hx0, hx1, hx2, hx3, _, _, _, _⟩ := HX.four
              obtain ⟨_, _, _, _, hf0, hf1, hf2, hf3⟩ := HYr.out.four
              have hTT : T.take W = T := List.take_of_length_le (by rw [HTL.out]; exact Nat.le_refl _)
              have hrs := HRS.out.2
              rw [hTT] at hrs
              have HR := Lib.hid hrs
              have hgr := hO
              clear hrs hTT
              go_wp2_with fail
              refine bodyPost_ret (v := .tuple #[.agg #[.int .i64 (W : Int), .int .i64 2, .int .i64 3, .slice p rs.length c], .bool true]) ?_ rfl ⟨T, p, c, HT.out, by rw [← HR.out], ?_, ?_⟩
              · rw [results_cell_tmp rfl]
                go_simp
              · rw [← HR.out]
                have hI : ∀ W' : World, OwnBd W' (h15 + 1) (.slice p rs.length c) rs.length l → IsBd W' (.slice p rs.length c) rs := fun W' h => by
                  have h2 := h.isBd
                  rw [HRS.out.1] at h2
                  exact h2
                refine hI _ ?_
                iterate 4 (refine OwnBd.setCell ?_ (by show w.heap.size < h15 + 1; omega) _)
                exact hO
              · iterate 4 (refine Below.setCell ?_ (by simp) _)
                exact hbw6
end Go.Proofs.Ytmadpjmlcooinaa
