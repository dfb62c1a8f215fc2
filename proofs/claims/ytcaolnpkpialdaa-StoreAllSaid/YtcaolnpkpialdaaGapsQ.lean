/- The walk of varint.Gaps, for a list that rises and is not too long. -/
import Derived.Test.YtcaolnpkpialdaaPut
import Derived.Test.YtcaolnpkpialdaaPGaps
import Derived.Test.YtcaolnpkpialdaaGet
namespace Go.Proofs.Ytcaolnpkpialdaa
open Go.RowKit
theorem bys_oneQ (l : List Nat) : ∀ u ∈ bys l, u.oneCell' = true := by
  intro u hu
  obtain ⟨x, _, rfl⟩ := List.mem_map.1 hu
  rfl
/-- whole numbers without a sign as integers -/
def nti (l : List Nat) : List Int := l.map fun x : Nat => (x : Int)
theorem nti_len (l : List Nat) : (nti l).length = l.length := by simp [nti]
theorem nti_get {l : List Nat} {i : Nat} (h : i < l.length) : (its (nti l))[i]? = some (.int .i64 ((l[i] : Nat) : Int)) := by
  unfold its nti; rw [List.getElem?_map, List.getElem?_map, List.getElem?_eq_getElem h]; rfl
theorem IsI.getN {w : World} {p : Option Addr} {c n : Nat} {l : List Nat} (h : IsI w (.slice p n c) (nti l)) {i : Nat} (hi : i < l.length) : ∃ b off, p = some ⟨b, off, none⟩ ∧ w.cell? ⟨b, off + i, none⟩ = some (.int .i64 ((l[i] : Nat) : Int)) := by
  obtain ⟨rfl, _⟩ := h.lens
  exact h.1.get (nti_get hi)
theorem rise_le : ∀ {l : List Nat} {last : Nat}, RiseF last l → ∀ x ∈ l, x ≤ MaxN := by
  intro l
  induction l with
  | nil => intro last _ x hx; cases hx
  | cons n r ih =>
    intro last h x hx
    obtain ⟨_, h2, h3⟩ := h
    rcases List.mem_cons.1 hx with rfl | hx
    · exact h2
    · exact ih h3 x hx
set_option maxHeartbeats 1000000 in
set_option maxRecDepth 100000 in
theorem gaps_any (p : Option Addr) (c n : Nat) (l : List Nat) (w : World) (hl : IsI w (.slice p n c) (nti l)) (hn : n ≤ 2000) (hr : RiseF 0 l) :
    Calls Try.prog 79 #[.slice p n c] w fun e w' => ∃ p' c', e = .returned (.tuple #[.slice p' (gapsL l).length c', .int .i64 0]) ∧ w'.ownsRow w.heap.size 5 1 (.slice p' (gapsL l).length c') (gapsL l).length (bys (gapsL l)) ∧ Below w.heap.size w w' := by
  obtain ⟨hnl, hc1, hc2⟩ := hl.lens
  rw [nti_len] at hnl
  subst hnl
  have HL := Lib.hid hl
  have HR := Lib.hid hr
  have hpl : (put l.length).length ≤ 10 := put_len10 (by unfold U64; omega)
  clear hl hr hc1 hc2
  go_enter Try.func79, Try.ntmps79
  go_wp2_with fail
  go_loop [15] (fun i => ∃ k : Nat, i = .int .i64 (k : Int) ∧ k ≤ l.length) (fun i => l.length - (intOf i).toNat)
  case atStart => exact ⟨0, rfl, by omega⟩
  case round =>
    obtain ⟨k, rfl, hk⟩ := hrel
    by_cases hlt : k < l.length
    · have hx := rise_le HR.out _ (List.getElem_mem hlt)
      obtain ⟨b, off, rfl, hcell⟩ := HL.out.getN hlt
      generalize l[k] = x at hx hcell
      have hx0 : decide ((x : Int) < 0) = false := by simp <;> omega
      have hx1 : decide ((1152921504606846976 : Int) < (x : Int)) = false := by unfold MaxN at hx; simp <;> omega
      clear hx
      go_wp2_with fail
      go_round
      case rel => exact ⟨k + 1, by go_num, by omega⟩
      case measure => simp [intOf]; omega
    · obtain rfl : k = l.length := by omega
      go_wp2_with fail
      refine (put_i _ l.length _ rfl (by unfold U64; omega)).mono ?_; rintro e w1 ⟨p1, c1, rfl, ho1, hb1⟩
      have HL1 := Lib.hid (HL.out.later hb1)
      have hz1 := hb1.size
      go_wp2_with fail
      go_loopw [6, 7, 32] (fun v s i wr => ∃ (j last : Nat) (pre : List Nat) (p' : Option Addr) (c' : Nat), i = .int .i64 (j : Int) ∧ j ≤ l.length ∧ s = .int .i64 (last : Int) ∧ v = .slice p' pre.length c' ∧ pre.length ≤ 10 + 10 * j ∧ last ≤ MaxN ∧ RiseF last (l.drop j) ∧ pre ++ gapsF last (l.drop j) = gapsL l ∧ wr.ownsRow w.heap.size 5 1 (.slice p' pre.length c') pre.length (bys pre) ∧ Below w.heap.size w wr ∧ w.heap.size ≤ wr.heap.size)
        (fun _ _ i _ => l.length - (intOf i).toNat)
      case atStart => exact ⟨0, 0, put l.length, p1, c1, rfl, by omega, rfl, rfl, by omega, Nat.zero_le _, HR.out, rfl, ho1, hb1, hz1⟩
      case round =>
        obtain ⟨j, last, pre, p', c', rfl, hj, rfl, rfl, hpre, hlast, hri, hg, hown, hb, hsz⟩ := hrel
        by_cases hjl : j < l.length
        · have hdr := drop_cons hjl
          rw [hdr] at hri hg
          obtain ⟨b, off, rfl, hcell⟩ := (HL.out.later hb).getN hjl
          generalize l[j] = x at hri hg hcell
          obtain ⟨hx1, hx2, hx3⟩ := hri
          have hxp : (put (x - last)).length ≤ 10 := put_len10 (by unfold U64; unfold MaxN at hx2; omega)
          have hxm : (x : Int) ≤ 1152921504606846976 := by unfold MaxN at hx2; omega
          have HG := Lib.hid hg
          have HX := Lib.hid hx3
          have HD := Lib.hid hdr
          have HM := Lib.hid hx2
          have hxl : decide ((x : Int) < (last : Int)) = false := by simp <;> omega
          clear hx3 hg hdr hx2 hlast
          go_wp2_with fail
          refine (put_i _ (x - last) _ (by omega) (by unfold U64; omega)).mono ?_; rintro e w2 ⟨p2, c2, rfl, ho2, hb2⟩
          obtain ⟨hbb, hzz⟩ := below_step hb hsz hb2
          have hown2 := own_later hown hb2
          have HS2 := Lib.hid (Sl.of_own ho2)
          clear ho2 hb2 hown hb hsz
          go_wp2_with (at_builtin; refine wp_app (w0 := w) rfl _ _ _ rfl w.heap.size 5 Try.underlying56 inf_u8 rfl (by decide) rfl hown2 rfl HS2.out (bys_oneQ _) (by unfold maxLen; omega) (by omega) hbb hzz ?_; intro p3 c3 w3 ho3 hb3 hz3 _ _)
          rw [← bys_append] at ho3
          have hln : pre.length + (put (x - last)).length = (pre ++ put (x - last)).length := List.length_append.symm
          rw [hln] at ho3 ⊢
          have HLN := Lib.hid hln
          clear hln
          go_roundw
          case rel => exact ⟨j + 1, x, pre ++ put (x - last), p3, c3, by go_num, by omega, rfl, rfl, by rw [← HLN.out]; omega, HM.out, HX.out, by rw [List.append_assoc]; exact HG.out, ho3, hb3, hz3⟩
          case measure => simp [intOf]; omega
        · obtain rfl : j = l.length := by omega
          rw [List.drop_length, gapsF, List.append_nil] at hg
          have HG := Lib.hid hg
          clear hg
          go_wp2_with fail
          go_ret2
          rw [← HG.out]
          exact ⟨p', c', rfl, hown, hb⟩
end Go.Proofs.Ytcaolnpkpialdaa
