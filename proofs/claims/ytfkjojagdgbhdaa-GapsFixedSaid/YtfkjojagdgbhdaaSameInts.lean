/- The walks of pacelinekeep.sameInts and rising. -/
import Derived.Test.YtfkjojagdgbhdaaMine
import Derived.Test.YtfkjojagdgbhdaaPick
import Derived.Test.YtfkjojagdgbhdaaGaps
import Derived.Test.YtfkjojagdgbhdaaOwn2
import Derived.Deep.QuietTactic
import Derived.BigQuiet
namespace Go.Proofs.Ytfkjojagdgbhdaa
open Go.RowKit
theorem its_get {l : List Int} {i : Nat} (h : i < l.length) : (its l)[i]? = some (.int .i64 l[i]) := by
  unfold its; rw [List.getElem?_map, List.getElem?_eq_getElem h]; rfl
theorem IsI.get {w : World} {p : Option Addr} {c n : Nat} {l : List Int} (h : IsI w (.slice p n c) l) {i : Nat} (hi : i < l.length) : ∃ b off, p = some ⟨b, off, none⟩ ∧ w.cell? ⟨b, off + i, none⟩ = some (.int .i64 l[i]) := by
  obtain ⟨rfl, _⟩ := h.lens
  exact h.1.get (its_get hi)
set_option maxHeartbeats 1000000 in
set_option maxRecDepth 100000 in
theorem sameInts_any (p q : Option Addr) (c d n m : Nat) (a b : List Int) (w : World) (ha : IsI w (.slice p n c) a) (hb : IsI w (.slice q m d) b) :
    Calls Try.prog 29 #[.slice p n c, .slice q m d] w fun e w' => e = .returned (.bool (decide (a = b))) ∧ Below w.heap.size w w' := by
  obtain ⟨rfl, hc1, hc2⟩ := ha.lens
  obtain ⟨rfl, hd1, hd2⟩ := hb.lens
  have HA := Lib.hid ha
  have HB := Lib.hid hb
  have hla : a.length ≤ 9223372036854775807 := by omega
  have hlb : b.length ≤ 9223372036854775807 := by omega
  clear ha hb hc1 hc2 hd1 hd2
  by_cases hlen : a.length = b.length
  · have hne : ((a.length : Int) != (b.length : Int)) = false := by simp <;> omega
    have HLE := Lib.hid hlen
    clear hlen
    go_enter Try.func29, Try.ntmps29
    go_wp2_with fail
    go_loopw [5] (fun i wr => ∃ k : Nat, i = .int .i64 (k : Int) ∧ k ≤ a.length ∧ a.take k = b.take k ∧ Below w.heap.size w wr ∧ w.heap.size ≤ wr.heap.size) (fun i _ => a.length - (intOf i).toNat)
    case atStart => exact ⟨0, rfl, by omega, by simp, Below.refl _ _, Nat.le_refl _⟩
    case round =>
      obtain ⟨k, rfl, hk, ht, hbl, hsz⟩ := hrel
      have HT := Lib.hid ht
      clear ht
      by_cases hlt : k < a.length
      · have hltb : k < b.length := by have := HLE.out; omega
        have HTA := Lib.hid (List.take_succ_eq_append_getElem hlt)
        have HTB := Lib.hid (List.take_succ_eq_append_getElem hltb)
        have HXA := Lib.hid (List.getElem?_eq_getElem hlt)
        have HXB := Lib.hid (List.getElem?_eq_getElem hltb)
        obtain ⟨b1, off1, rfl, hcell1⟩ := (HA.out.later hbl).get hlt
        obtain ⟨b2, off2, rfl, hcell2⟩ := (HB.out.later hbl).get hltb
        generalize a[k] = x at hcell1 HTA HXA
        generalize b[k] = y at hcell2 HTB HXB
        have hk0 : (0 : Int) ≤ (k : Int) := by omega
        have hka : (k : Int) < (a.length : Int) := by omega
        have hkb : (k : Int) < (b.length : Int) := by omega
        by_cases hxy : x = y
        · have hbne : (x != y) = false := by simp [hxy]
          have HXY := Lib.hid hxy
          clear hxy
          go_wp2_with fail
          go_quiet (fail)
          go_wp2_with fail
          go_roundw
          case rel => exact ⟨k + 1, by go_num, by omega, by rw [HTA.out, HTB.out, HT.out, HXY.out], below_drewN hbl _, hsz⟩
          case measure => simp [intOf]; omega
        · have hbne : (x != y) = true := by simp [hxy]
          have HNE := Lib.hid (show ¬ a = b from fun h => by
            subst h
            have := HXA.out.symm.trans HXB.out
            exact hxy (Option.some.inj this))
          clear hxy
          go_wp2_with fail
          go_quiet (fail)
          go_wp2_with fail
          go_ret
          exact ⟨by rw [decide_eq_false HNE.out]; rfl, below_drewN hbl _⟩
      · have hab : a = b := by
          have h := HT.out
          have h2 := HLE.out
          rw [List.take_of_length_le (by omega), List.take_of_length_le (by omega)] at h
          exact h
        have HAB := Lib.hid hab
        clear hab
        go_wp2_with fail
        go_ret
        exact ⟨by rw [decide_eq_true HAB.out]; rfl, hbl⟩
  · have hne : ((a.length : Int) != (b.length : Int)) = true := by simp <;> omega
    have HNE := Lib.hid (show ¬ a = b from fun h => hlen (by rw [h]))
    clear hlen
    go_enter Try.func29, Try.ntmps29
    go_wp2_with fail
    go_ret
    exact ⟨by rw [decide_eq_false HNE.out]; rfl, Below.refl _ _⟩
/-- numbers that rise, of raw ones -/
def risF : Nat → List Int → List Nat
  | _, [] => []
  | last, n :: r => (last + pickN n 1000000) :: risF (last + pickN n 1000000) r
theorem risF_len : ∀ (l : List Int) (last : Nat), (risF last l).length = l.length := by
  intro l
  induction l with
  | nil => intro last; rfl
  | cons n r ih => intro last; rw [risF, List.length_cons, List.length_cons, ih]
theorem risF_rise : ∀ (l : List Int) (last B : Nat), last ≤ B → B + 1000000 * l.length ≤ MaxN → RiseF last (risF last l) := by
  intro l
  induction l with
  | nil => intro last B _ _; trivial
  | cons n r ih =>
    intro last B h1 h2
    have := pickN_lt n (m := 1000000) (by omega)
    rw [List.length_cons] at h2
    exact ⟨by omega, by omega, ih _ (B + 1000000) (by omega) (by omega)⟩
theorem nti_snoc (l : List Nat) (x : Nat) : nti (l ++ [x]) = nti l ++ [(x : Int)] := by simp [nti]
set_option maxHeartbeats 1000000 in
set_option maxRecDepth 100000 in
theorem rising_any (p : Option Addr) (c n : Nat) (l : List Int) (m : Nat) (w : World) (hl : IsI w (.slice p n c) l) (hm : m ≤ 1000) :
    Calls Try.prog 26 #[.slice p n c, .int .i64 (m : Int)] w fun e w' => ∃ p' c', e = .returned (.slice p' (l.take m).length c') ∧ w'.ownsRow w.heap.size 3 1 (.slice p' (l.take m).length c') (l.take m).length (its (nti (risF 0 (l.take m)))) ∧ Below w.heap.size w w' := by
  obtain ⟨rfl, hc1, hc2⟩ := hl.lens
  have HL := Lib.hid hl
  have hla : l.length ≤ 9223372036854775807 := by omega
  clear hl hc1 hc2
  go_enter Try.func26, Try.ntmps26
  go_wp2_with fail
  have hlm : (l.take m).length = min m l.length := List.length_take
  have hlm1 : (l.take m).length ≤ m := by omega
  have hlm2 : (l.take m).length ≤ l.length := by omega
  have hlm3 : (l.take m).length < l.length → m ≤ (l.take m).length := by omega
  clear hlm
  generalize hT : l.take m = T at *
  go_loopw [5, 6, 7] (fun v s i wr => ∃ (k last : Nat) (pre : List Nat) (p' : Option Addr) (c' : Nat), i = .int .i64 (k : Int) ∧ k ≤ T.length ∧ s = .int .i64 (last : Int) ∧ v = .slice p' k c' ∧ last ≤ 1000000 * k ∧ pre.length = k ∧ pre ++ risF last (T.drop k) = risF 0 T ∧ wr.ownsRow w.heap.size 3 1 (.slice p' k c') k (its (nti pre)) ∧ Below w.heap.size w wr ∧ w.heap.size ≤ wr.heap.size)
    (fun _ _ i _ => 2000 - (intOf i).toNat)
  case atStart => exact ⟨0, 0, [], none, 0, rfl, by omega, rfl, rfl, by omega, rfl, rfl, World.ownsRow_nil _ _ _ _, Below.refl _ _, Nat.le_refl _⟩
  case round =>
    obtain ⟨k, last, pre, p', c', rfl, hk, rfl, rfl, hlast, hpl, hg, hown, hb, hsz⟩ := hrel
    have HPL := Lib.hid hpl
    have HG := Lib.hid hg
    have HTT := Lib.hid hT
    have hkm : k ≤ m := by omega
    clear hpl hg hT
    by_cases hlt : k < T.length
    · have hkl : k < l.length := by omega
      have hkm2 : k < m := by omega
      have hTk : T[k]? = l[k]? := by rw [← HTT.out, List.getElem?_take_of_lt hkm2]
      have hxe : T[k] = l[k] := by
        rw [List.getElem?_eq_getElem hlt, List.getElem?_eq_getElem hkl] at hTk
        exact Option.some.inj hTk
      have hdr := Lib.hid (drop_cons hlt)
      rw [hxe] at hdr
      have hbd := HL.out.2 _ (List.getElem_mem hkl)
      obtain ⟨b, off, rfl, hcell⟩ := (HL.out.later hb).get hkl
      generalize l[k] = x at hbd hcell hdr
      clear hTk hxe
      have hpx := pickN_lt x (m := 1000000) (by omega)
      have hd1 : decide ((k : Int) < (l.length : Int)) = true := by simp <;> omega
      have hd2 : decide ((k : Int) < (m : Int)) = true := by simp <;> omega
      have hd3 : decide (k < l.length) = true := by simp <;> omega
      have hd4 : decide (k < m) = true := by simp <;> omega
      go_wp2_with fail
      refine (picked_any x 1000000 _ hbd.1 hbd.2 (by omega) (by omega)).mono ?_; rintro e w' ⟨rfl, rfl⟩
      have HX := Lib.hid (show risF last (x :: T.drop (k + 1)) = (last + pickN x 1000000) :: risF (last + pickN x 1000000) (T.drop (k + 1)) from rfl)
      generalize pickN x 1000000 = y at hpx HX ⊢
      go_wp2_with (at_builtin; refine wp_app1 rfl _ _ _ rfl _ _ Try.underlying30 inf_int rfl (by decide) rfl hown (us := [_]) rfl rfl (by simp [Value.oneCell']) (by unfold maxLen; omega) (by omega) hb hsz ?_; intro p1 c1 w1 hown1 hb1 hsz1 _ _)
      have hown2 : w1.ownsRow w.heap.size 3 1 (.slice p1 (k + 1) c1) (k + 1) (its (nti (pre ++ [last + y]))) := by
        rw [nti_snoc, its_snoc]
        have ec : ((last + y : Nat) : Int) = (last : Int) + (y : Int) := by push_cast; rfl
        rw [ec]
        exact hown1
      go_roundw
      case rel => exact ⟨k + 1, last + y, pre ++ [last + y], p1, c1, by go_num, by omega, by go_num, rfl, by omega, by rw [List.length_append, HPL.out]; rfl, by rw [← HG.out, hdr.out, HX.out, List.append_assoc]; rfl, hown2, hb1, hsz1⟩
      case measure => simp [intOf]; omega
    · obtain rfl : k = T.length := by omega
      have hg := HG.out
      rw [List.drop_length, risF, List.append_nil] at hg
      have HGG := Lib.hid hg
      clear hg
      have hdd : (decide ((T.length : Int) < (l.length : Int)) && decide ((T.length : Int) < (m : Int))) = false := by
        simp only [Bool.and_eq_false_iff, decide_eq_false_iff_not]; omega
      by_cases hcl : T.length < l.length
      · have hd1 : decide ((T.length : Int) < (l.length : Int)) = true := by simp <;> omega
        have hd2 : decide ((T.length : Int) < (m : Int)) = false := by simp <;> omega
        have hd3 : decide (T.length < l.length) = true := by simp <;> omega
        have hd4 : decide (T.length < m) = false := by simp <;> omega
        clear hdd hcl
        go_wp2_with fail
        go_ret
        rw [HTT.out, ← HGG.out]
        exact ⟨p', c', rfl, hown, hb⟩
      · have hd1 : decide ((T.length : Int) < (l.length : Int)) = false := by simp <;> omega
        have hd3 : decide (T.length < l.length) = false := by simp <;> omega
        clear hdd hcl
        go_wp2_with fail
        go_ret
        rw [HTT.out, ← HGG.out]
        exact ⟨p', c', rfl, hown, hb⟩
end Go.Proofs.Ytfkjojagdgbhdaa
