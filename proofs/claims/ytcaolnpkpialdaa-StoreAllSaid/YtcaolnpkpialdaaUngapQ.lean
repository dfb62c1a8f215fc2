/- The walk of varint.Ungap: it answers what ungapL says, for every slice of bytes. -/
import Derived.Test.YtcaolnpkpialdaaNext
import Derived.Test.YtcaolnpkpialdaaGapsQ
import Derived.Test.YtcaolnpkpialdaaBoxed
namespace Go.Proofs.Ytcaolnpkpialdaa
open Go.RowKit
theorem its_snocQ (l : List Int) (x : Int) : its (l ++ [x]) = its l ++ [Value.int .i64 x] := by simp [its]
theorem nti_snocQ (l : List Nat) (x : Nat) : nti (l ++ [x]) = nti l ++ [(x : Int)] := by simp [nti]
theorem own_ne_blk {w : World} {base : Nat} {e t : TypeId} {size n g : Nat} {v : Value} {xs : List Value} {cs : Array Value} {fr : Nat × Nat} (h : w.ownsRow base e size v n xs) (hg : w.heap[g]? = some (.cells cs t fr)) (hne : e ≠ t) : v.ownBlock ≠ some g := by
  rcases h.2 with ⟨rfl, _⟩ | ⟨g', cap, cur, rfl, _, hh, _⟩
  · simp [Value.ownBlock]
  · intro he
    have : g' = g := by simpa [Value.ownBlock] using he
    subst this
    rw [hh] at hg
    injection hg with hg
    injection hg with _ ht
    exact hne ht
set_option maxHeartbeats 2000000 in
set_option maxRecDepth 100000 in
theorem ungap_any (p : Option Addr) (c n : Nat) (l : List Nat) (w : World) (hl : IsB w (.slice p n c) l) :
    Calls Try.prog 80 #[.slice p n c] w fun e w' => ∃ p' c', e = .returned (.tuple #[.slice p' (ungapL l).1.length c', .int .i64 ((ungapL l).2.1 : Int), .int .i64 ((ungapL l).2.2 : Int)]) ∧ w'.ownsRow w.heap.size 3 1 (.slice p' (ungapL l).1.length c') (ungapL l).1.length (its (nti (ungapL l).1)) ∧ Below w.heap.size w w' := by
  obtain ⟨rfl, hc1, hc2⟩ := hl.lens
  have HL := Lib.hid hl
  have hlen : l.length ≤ 9223372036854775807 := by omega
  by_cases h0 : l.length = 0
  · obtain rfl : l = [] := List.eq_nil_of_length_eq_zero h0
    have hp : p = none → c = 0 := by obtain ⟨⟨p', c', hp, _, _, _, h4, _⟩, _⟩ := hl; cases hp; exact h4
    have hc : c ≤ 9223372036854775807 := hc2
    clear h0 hl hc1 hc2 hlen HL
    go_enter Try.func80, Try.ntmps80
    go_wp2_with fail
    refine (next_empty w.heap.size c p _ (heap_alloc_new w _) hc hp).mono ?_; rintro e w1 ⟨rfl, hg1⟩
    have hb : Below w.heap.size w w1 := ((Below.refl _ w).alloc (Nat.le_refl _) _).grown hg1 (by simp) (fun k hk => by cases hk; exact Nat.le_refl _)
    go_wp2_with fail
    go_ret3
    exact ⟨none, 0, rfl, World.ownsRow_nil _ _ _ _, hb⟩
  · obtain ⟨b, off, rfl⟩ := hl.some_ (by omega)
    have hbd := fun used (h : (getL (l.drop used)).2.2 = 0) => getL_bd (l := l.drop used) (fun x hx => hl.2 x (List.mem_of_mem_drop hx)) h
    have HBD := Lib.hid hbd
    clear h0 hl hbd
    go_enter Try.func80, Try.ntmps80
    go_wp2_with fail
    refine (next_any w.heap.size b off c l.length 0 l _ (heap_alloc_new w _) (HL.out.later ((Below.refl _ w).alloc (Nat.le_refl _) _)) (Nat.zero_le _)).mono ?_; rintro e w1 ⟨rfl, hh1, hg1⟩
    have hb1 : Below w.heap.size w w1 := ((Below.refl _ w).alloc (Nat.le_refl _) _).grown hg1 (by simp) (fun k hk => by cases hk; exact Nat.le_refl _)
    have hz1 := hb1.size
    have hbd0 := HBD.out 0
    rw [List.drop_zero] at hh1 hbd0 ⊢
    generalize hG : getL l = G at *
    obtain ⟨N, k, e⟩ := G
    have HG := Lib.hid hG
    clear hG hg1
    dsimp only at *
    by_cases he : e = 0
    · subst he
      rw [show ((0 : Nat) : Int) = 0 from rfl]
      obtain ⟨_, hk1, hk2, hk10⟩ := hbd0 rfl
      clear hbd0
      by_cases hN : 2000 < N
      · have HE := Lib.hid (ungapL_size HG.out hN)
        go_wp2_with fail
        go_ret3
        rw [HE.out]
        exact ⟨none, 0, rfl, World.ownsRow_nil _ _ _ _, hb1⟩
      · have HE := Lib.hid (ungapL_on HG.out hN)
        have HH1 := Lib.hid hh1
        clear hh1
        go_wp2_with fail
        go_loopw [8, 9, 26] (fun v s i wr => ∃ (j last used : Nat) (acc : List Nat) (p' : Option Addr) (c' : Nat), i = .int .u64 (j : Int) ∧ j ≤ N ∧ s = .int .u64 (last : Int) ∧ v = .slice p' j c' ∧ last ≤ MaxN ∧ used ≤ l.length ∧ acc.length = j ∧ ungapL l = ungapF l (N - j) used last acc ∧
            wr.heap[w.heap.size]? = some (.cells #[.slice (some ⟨b, off, none⟩) l.length c, .int .i64 (used : Int)] 190 (0, 0)) ∧ wr.ownsRow w.heap.size 3 1 (.slice p' j c') j (its (nti acc)) ∧ Below w.heap.size w wr ∧ w.heap.size ≤ wr.heap.size)
          (fun _ _ i _ => 3000 - (intOf i).toNat)
        case atStart => exact ⟨0, 0, k, [], none, 0, rfl, by omega, rfl, rfl, by omega, hk2, rfl, HE.out, by rw [Nat.zero_add] at HH1; exact HH1.out, World.ownsRow_nil _ _ _ _, hb1, hz1⟩
        case round =>
          obtain ⟨j, last, used, acc, p', c', rfl, hj, rfl, rfl, hlast, hused, hacc, hu, hgb, hown, hb, hsz⟩ := hrel
          have HU := Lib.hid hu
          have HACC := Lib.hid hacc
          have HLA := Lib.hid hlast
          clear hu hacc hlast
          by_cases hjN : j < N
          · go_wp2_with fail
            refine (next_any w.heap.size b off c l.length used l wr hgb (HL.out.later hb) hused).mono ?_; rintro e w2 ⟨rfl, hh2, hg2⟩
            have hown2 := hown.kept hg2 (.inr (own_ne_blk hown hgb (by decide)))
            have hb2 := hb.grown hg2 hsz (fun k hk => by cases hk; exact Nat.le_refl _)
            have hz2 := Nat.le_trans hsz hg2.size
            have hbdu := HBD.out used
            generalize hM : getL (l.drop used) = M at *
            obtain ⟨N2, k2, e2⟩ := M
            have HM := Lib.hid hM
            have HH2 := Lib.hid hh2
            clear hM hg2 hown hb hsz hgb hh2
            obtain ⟨m, hm⟩ : ∃ m, N - j = m + 1 := ⟨N - j - 1, by omega⟩
            have HMM := Lib.hid hm
            have hm2 : N - (j + 1) = m := by omega
            have HMM2 := Lib.hid hm2
            clear hm hm2
            dsimp only at *
            by_cases he2 : e2 = 0
            · subst he2
              obtain ⟨hN2u, hk21, hk22, hk210⟩ := hbdu rfl
              rw [List.length_drop] at hk22
              clear hbdu
              by_cases hr : MaxN < N2 ∨ MaxN < last + N2
              · have hE := HU.out
                rw [HMM.out, ungapF_range HM.out hr] at hE
                have HE2 := Lib.hid hE
                have HR := Lib.hid hr
                clear hE hr
                by_cases hr1 : MaxN < N2
                · have hd1 : decide ((1152921504606846976 : Int) < (N2 : Int)) = true := by unfold MaxN at hr1; simp <;> omega
                  clear hr1
                  go_wp2_with fail
                  go_ret3
                  rw [HE2.out]
                  exact ⟨none, 0, rfl, World.ownsRow_nil _ _ _ _, hb2⟩
                · have hb3 : N2 ≤ 1152921504606846976 := by unfold MaxN at hr1; omega
                  have hb4 : last ≤ 1152921504606846976 := by have := HLA.out; unfold MaxN at this; omega
                  have hd1 : decide ((1152921504606846976 : Int) < (N2 : Int)) = false := by simp <;> omega
                  have hd2 : decide ((1152921504606846976 : Int) < (last : Int) + (N2 : Int)) = true := by
                    have h := HR.out
                    unfold MaxN at h
                    simp <;> omega
                  clear hr1
                  go_wp2_with fail
                  go_ret3
                  rw [HE2.out]
                  exact ⟨none, 0, rfl, World.ownsRow_nil _ _ _ _, hb2⟩
              · have hE := HU.out
                rw [HMM.out, ungapF_on HM.out hr] at hE
                have HE2 := Lib.hid hE
                have HR := Lib.hid (show last + N2 ≤ MaxN by omega)
                have hb3 : N2 ≤ 1152921504606846976 := by unfold MaxN at hr; omega
                have hb4 : last ≤ 1152921504606846976 := by have := HLA.out; unfold MaxN at this; omega
                have hd1 : decide ((1152921504606846976 : Int) < (N2 : Int)) = false := by simp <;> omega
                have hd2 : decide ((1152921504606846976 : Int) < (last : Int) + (N2 : Int)) = false := by unfold MaxN at hr; simp <;> omega
                clear hE hr
                go_wp2_with (at_builtin; refine wp_app1 rfl _ _ _ rfl _ _ Try.underlying28 inf_int rfl (by decide) rfl hown2 (us := [_]) rfl rfl (by simp [Value.oneCell']) (by unfold maxLen; omega) (by omega) hb2 hz2 ?_; intro p3 c3 w3 ho3 hb3' hz3 hg3 _)
                have HH3 : w3.heap[w.heap.size]? = some (.cells #[.slice (some ⟨b, off, none⟩) l.length c, .int .i64 ((used + k2 : Nat) : Int)] 190 (0, 0)) := by
                  rw [hg3.block w.heap.size (by have := (Array.getElem?_eq_some_iff.1 HH2.out).1; exact this) (fun h => own_ne_blk hown2 HH2.out (by decide) h.symm)]
                  exact HH2.out
                have ho4 : w3.ownsRow w.heap.size 3 1 (.slice p3 (j + 1) c3) (j + 1) (its (nti (acc ++ [last + N2]))) := by
                  rw [nti_snocQ, its_snocQ]
                  have ec : ((last + N2 : Nat) : Int) = (last : Int) + (N2 : Int) := by push_cast; rfl
                  rw [ec]
                  exact ho3
                clear ho3 hg3 hd1 hd2
                go_roundw
                case rel => exact ⟨j + 1, last + N2, used + k2, acc ++ [last + N2], p3, c3, by go_num, by omega, by go_num, rfl, HR.out, by omega, by rw [List.length_append, HACC.out]; rfl, by rw [HMM2.out]; exact HE2.out, HH3, ho4, hb3', hz3⟩
                case measure => simp [intOf]; omega
            · have hE := HU.out
              rw [HMM.out, ungapF_err HM.out he2] at hE
              have HE2 := Lib.hid hE
              have hz : ((e2 : Int) == 0) = false := by simp <;> omega
              have hz2' : ((e2 : Int) != 0) = true := by simp <;> omega
              clear hE he2 hbdu
              go_wp2_with fail
              go_ret3
              rw [HE2.out]
              exact ⟨none, 0, rfl, World.ownsRow_nil _ _ _ _, hb2⟩
          · obtain rfl : j = N := by omega
            have hE := HU.out
            rw [Nat.sub_self] at hE
            have HE2 := Lib.hid (show ungapL l = (acc, used, 0) from hE)
            have h0 : wr.cell? ⟨w.heap.size, 0, none⟩ = some (.slice (some ⟨b, off, none⟩) l.length c) := by rw [cell_of_row wr _ 0 _ _ _ hgb]; rfl
            have h1 : wr.cell? ⟨w.heap.size, 1, none⟩ = some (.int .i64 (used : Int)) := by rw [cell_of_row wr _ 1 _ _ _ hgb]; rfl
            clear hE hgb
            go_wp2_with fail
            go_quiet (fail)
            go_wp2_with fail
            go_ret3
            rw [HE2.out]
            refine ⟨p', c', ?_, ?_, below_drewN hb _⟩
            · rw [HACC.out]; rfl
            · rw [HACC.out]; exact hown
    · have HE := Lib.hid (ungapL_err HG.out he)
      have hz : ((e : Int) == 0) = false := by simp <;> omega
      have hz2 : ((e : Int) != 0) = true := by simp <;> omega
      clear hbd0 he
      go_wp2_with fail
      go_ret3
      rw [HE.out]
      exact ⟨none, 0, rfl, World.ownsRow_nil _ _ _ _, hb1⟩
end Go.Proofs.Ytcaolnpkpialdaa
