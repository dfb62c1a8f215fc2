/- What the laws of rounds share: runs to an end that is known, and what is read of lists. -/
import Derived.Deep.QuietTactic
import Derived.BigQuiet
import Derived.Test.YtiaflhlfodcbjaaBoxed
import Derived.Test.YtiaflhlfodcbjaaRan
import Derived.Test.YtiaflhlfodcbjaaMade
namespace Go.Proofs.Ytiaflhlfodcbjaa
open Go.RowKit
theorem its_get {l : List Int} {i : Nat} (h : i < l.length) : (its l)[i]? = some (.int .i64 l[i]) := by
  unfold its; rw [List.getElem?_map, List.getElem?_eq_getElem h]; rfl
theorem IsI.get {w : World} {p : Option Addr} {c n : Nat} {l : List Int} (h : IsI w (.slice p n c) l) {i : Nat} (hi : i < l.length) : ∃ b off, p = some ⟨b, off, none⟩ ∧ w.cell? ⟨b, off + i, none⟩ = some (.int .i64 l[i]) := by
  obtain ⟨rfl, _⟩ := h.lens
  exact h.1.get (its_get hi)
set_option maxHeartbeats 1000000 in
set_option maxRecDepth 100000 in
theorem sameInts_any (p q : Option Addr) (c d n m : Nat) (a b : List Int) (w : World) (ha : IsI w (.slice p n c) a) (hb : IsI w (.slice q m d) b) :
    Calls Try.prog 18 #[.slice p n c, .slice q m d] w fun e w' => e = .returned (.bool (decide (a = b))) ∧ Below w.heap.size w w' := by
  obtain ⟨rfl, hc1, hc2⟩ := ha.lens
  obtain ⟨rfl, hd1, hd2⟩ := hb.lens
  have HA := Lib.hid ha
  have HB := Lib.hid hb
  have hla : a.length ≤ 9223372036854775807 := by omega
  have hlb : b.length ≤ 9223372036854775807 := by omega
  clear ha hb hc1 hc2 hd1 hd2
  by_cases hlen : a.length = b.length
  · have hne : ((a.length : Int) != (b.length : Int)) = false := by simp <;> omega
    have HLE := Lib.hid hlen
    clear hlen
    go_enter Try.func18, Try.ntmps18
    go_wp2_with fail
    go_loopw [5] (fun i wr => ∃ k : Nat, i = .int .i64 (k : Int) ∧ k ≤ a.length ∧ a.take k = b.take k ∧ Below w.heap.size w wr ∧ w.heap.size ≤ wr.heap.size) (fun i _ => a.length - (intOf i).toNat)
    case atStart => exact ⟨0, rfl, by omega, by simp, Below.refl _ _, Nat.le_refl _⟩
    case round =>
      obtain ⟨k, rfl, hk, ht, hbl, hsz⟩ := hrel
      have HT := Lib.hid ht
      clear ht
      by_cases hlt : k < a.length
      · have hltb : k < b.length := by have := HLE.out; omega
        have HTA := Lib.hid (List.take_succ_eq_append_getElem hlt)
        have HTB := Lib.hid (List.take_succ_eq_append_getElem hltb)
        have HXA := Lib.hid (List.getElem?_eq_getElem hlt)
        have HXB := Lib.hid (List.getElem?_eq_getElem hltb)
        obtain ⟨b1, off1, rfl, hcell1⟩ := (HA.out.later hbl).get hlt
        obtain ⟨b2, off2, rfl, hcell2⟩ := (HB.out.later hbl).get hltb
        generalize a[k] = x at hcell1 HTA HXA
        generalize b[k] = y at hcell2 HTB HXB
        have hk0 : (0 : Int) ≤ (k : Int) := by omega
        have hka : (k : Int) < (a.length : Int) := by omega
        have hkb : (k : Int) < (b.length : Int) := by omega
        by_cases hxy : x = y
        · have hbne : (x != y) = false := by simp [hxy]
          have HXY := Lib.hid hxy
          clear hxy
          go_wp2_with fail
          go_quiet (fail)
          go_wp2_with fail
          go_roundw
          case rel => exact ⟨k + 1, by go_num, by omega, by rw [HTA.out, HTB.out, HT.out, HXY.out], below_drewN hbl _, hsz⟩
          case measure => simp [intOf]; omega
        · have hbne : (x != y) = true := by simp [hxy]
          have HNE := Lib.hid (show ¬ a = b from fun h => by
            subst h
            have := HXA.out.symm.trans HXB.out
            exact hxy (Option.some.inj this))
          clear hxy
          go_wp2_with fail
          go_quiet (fail)
          go_wp2_with fail
          go_ret
          exact ⟨by rw [decide_eq_false HNE.out]; rfl, below_drewN hbl _⟩
      · have hab : a = b := by
          have h := HT.out
          have h2 := HLE.out
          rw [List.take_of_length_le (by omega), List.take_of_length_le (by omega)] at h
          exact h
        have HAB := Lib.hid hab
        clear hab
        go_wp2_with fail
        go_ret
        exact ⟨by rw [decide_eq_true HAB.out]; rfl, hbl⟩
  · have hne : ((a.length : Int) != (b.length : Int)) = true := by simp <;> omega
    have HNE := Lib.hid (show ¬ a = b from fun h => hlen (by rw [h]))
    clear hlen
    go_enter Try.func18, Try.ntmps18
    go_wp2_with fail
    go_ret
    exact ⟨by rw [decide_eq_false HNE.out]; rfl, Below.refl _ _⟩
end Go.Proofs.Ytiaflhlfodcbjaa
namespace Go.Proofs.Ytiaflhlfodcbjaa
open Go.RowKit
theorem runs_low {kind N K : Nat} {src : Int} {E : List Eg} {Q : RSt → Prop} (hN : 1 ≤ N ∧ N ≤ 10) (h1 : 1 ≤ K) (h2 : K ≤ N + 1) (h : EndsIn (nextF kind src N E) Q K (beginF N)) : RunsIn kind src N E K := by
  have h5 : N + 1 ≤ N * (2 * N + 3) := by
    have h : 1 * (2 * N + 3) ≤ N * (2 * N + 3) := Nat.mul_le_mul_right _ hN.1
    omega
  exact ⟨h1, by omega, fun _ => h2, fun _ => h2, by omega, h.mono (fun _ _ => trivial)⟩
theorem runs_strong {N K : Nat} {src : Int} {E : List Eg} {Q : RSt → Prop} (hN : 1 ≤ N ∧ N ≤ 10) (h1 : 1 ≤ K) (h2 : K ≤ N * (2 * N + 3)) (h : EndsIn (nextF 3 src N E) Q K (beginF N)) : RunsIn 3 src N E K := by
  have h6 : N * (2 * N + 3) ≤ 10 * 23 := Nat.mul_le_mul hN.2 (by omega)
  exact ⟨h1, by omega, fun h => by omega, fun h => by omega, h2, h.mono (fun _ _ => trivial)⟩
theorem RunsIn.good {kind N K : Nat} {src : Int} {E : List Eg} (h : RunsIn kind src N E K) (hG : InG N E) (hN : 1 ≤ N ∧ N ≤ 10) (hE : E.length ≤ 20) :
    GoodS kind N (itF (nextF kind src N E) K (beginF N)) ∧ (itF (nextF kind src N E) K (beginF N)).step = K ∧ (itF (nextF kind src N E) K (beginF N)).done = true := by
  refine ⟨(it_good hG hN hE K).1, ?_, h.ends.last.1⟩
  rw [h.ends.steps]
  show 0 + K = K
  omega
theorem ansF_at {kind : Nat} {s : RSt} {v : Nat} (hv : v < s.vals.length) : (ansF kind s)[v]? = some (if kind = 3 then (aV s v).2 else (aV s v).1) := by
  unfold ansF aV
  rw [List.getElem?_map, List.getD_eq_getElem?_getD, List.getElem?_eq_getElem hv]; rfl
theorem ansF_ext {kind N : Nat} {s : RSt} {l : List Int} (h : s.vals.length = N) (hl : l.length = N) (he : ∀ v, v < N → some (if kind = 3 then (aV s v).2 else (aV s v).1) = l[v]?) : ansF kind s = l := by
  apply List.ext_getElem?
  intro v
  by_cases hv : v < N
  · rw [ansF_at (by omega), he v hv]
  · rw [List.getElem?_eq_none (by rw [ansF_len]; omega), List.getElem?_eq_none (by omega)]
theorem sameInts_true (p q : Option Addr) (c d n m : Nat) (l : List Int) (w : World) (ha : IsI w (.slice p n c) l) (hb : IsI w (.slice q m d) l) :
    Calls Try.prog 18 #[.slice p n c, .slice q m d] w fun e w' => e = .returned (.bool true) ∧ Below w.heap.size w w' :=
  (sameInts_any p q c d n m l l w ha hb).mono (by rintro e w' ⟨rfl, h⟩; exact ⟨by simp, h⟩)
theorem nts_its (l : List Nat) : nts l = its (l.map fun (x : Nat) => (x : Int)) := by
  unfold nts its; rw [List.map_map]; rfl
theorem ansF_bd {kind N : Nat} {s : RSt} (hG : GoodS kind N s) (hN : N ≤ 10) (hs : s.step ≤ 900) : ∀ x ∈ ansF kind s, -9223372036854775808 ≤ x ∧ x ≤ 9223372036854775807 := by
  intro x hx
  obtain ⟨v, hv, rfl⟩ := List.mem_iff_getElem.1 hx
  have hvl : v < s.vals.length := by rwa [ansF_len] at hv
  have h1 := hG.va v (by rw [← hG.vl]; exact hvl)
  have h2 := ansF_at (kind := kind) hvl
  rw [List.getElem?_eq_getElem hv] at h2
  have h3 := Option.some.inj h2
  have hc : capF kind N s.step ≤ 9000 := by unfold capF; split <;> omega
  rw [h3]
  split <;> omega
/-- an answer of the call's own, as a list that may be read -/
theorem ans_isI {kind N B : Nat} {s : RSt} {q : Option Addr} {d : Nat} {w : World} (h : w.ownsRow B 3 1 (.slice q N d) N (its (ansF kind s))) (hG : GoodS kind N s) (hN : N ≤ 10) (hs : s.step ≤ 900) : IsI w (.slice q N d) (ansF kind s) := by
  refine ⟨?_, ansF_bd hG hN hs⟩
  have h1 := Sl.of_own h
  have h2 : (ansF kind s).length = N := by rw [ansF_len, hG.vl]
  rw [h2]; exact h1
end Go.Proofs.Ytiaflhlfodcbjaa
