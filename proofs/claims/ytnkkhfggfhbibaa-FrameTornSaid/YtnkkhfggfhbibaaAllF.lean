/- The walk of frame.All. -/
import Derived.Test.YtnkkhfggfhbibaaBytesRows
import Derived.Test.YtnkkhfggfhbibaaPTorn
import Derived.Test.YtnkkhfggfhbibaaUnwrap
import Derived.Deep.LoopGhost
import Derived.IntWalk
namespace Go.Proofs.Ytnkkhfggfhbibaa
open Go.RowKit
theorem IsB.dropk {w : World} {b off c n : Nat} {l : List Nat} (h : IsB w (.slice (some ⟨b, off, none⟩) n c) l) {k : Nat} (hk : k ≤ n) : IsB w (.slice (some ⟨b, off + k, none⟩) (n - k) (c - k)) (l.drop k) := by
  have hn := h.lens.1
  have h1 := h.1
  rw [← hn] at h1
  have := h1.dropk hk
  rw [Nat.mul_one, ← bys_drop] at this
  refine ⟨?_, fun x hx => h.2 x (List.mem_of_mem_drop hx)⟩
  rw [List.length_drop, ← hn]; exact this
theorem unwrapL_bytes {l : List Nat} (h : AllB l) : AllB (unwrapL l).1 := by
  unfold unwrapL
  repeat' split
  all_goals first | (intro x hx; simp at hx; done) | exact fun x hx => h x (List.mem_of_mem_take (List.mem_of_mem_drop hx))
set_option maxHeartbeats 4000000 in
set_option maxRecDepth 100000 in
theorem allB_ok (p : Option Addr) (c n : Nat) (l : List Nat) (w : World) (hl : IsB w (.slice p n c) l) (hn : n ≤ 1000000) :
    Calls Try.prog 19 #[.slice p n c] w fun e w' => ∃ v vs, e = .returned (.tuple #[v, .int .i64 ((allL l).2 : Int)]) ∧ OwnBB w' w.heap.size v (allL l).1.length (allL l).1 vs ∧ Below w.heap.size w w' := by
  obtain ⟨rfl, hc1, hc2⟩ := hl.lens
  have HL := Lib.hid hl
  clear hl
  go_enter Try.func19, Try.ntmps19
  go_wp2_with fail
  go_loopg [4, 5] l.length (fun gk v4 v5 wr => ∃ (k : Nat) (q : Option Addr) (d : Nat) (vs : List Value) (R : List (List Nat)), v5 = .int .i64 (k : Int) ∧ k + gk = l.length ∧ v4 = .slice q R.length d ∧ OwnBB wr w.heap.size (.slice q R.length d) R.length R vs ∧ Hid (allL l = (R ++ (allL (l.drop k)).1, k + (allL (l.drop k)).2)) ∧ R.length ≤ k ∧ Below w.heap.size w wr)
  case atStart => exact ⟨0, none, 0, [], [], rfl, by omega, rfl, OwnBB.nil _ _, Lib.hid (by simp), by simp, Below.refl _ _⟩
  case round =>
    obtain ⟨k, q, d, vs, R, rfl, hgk, rfl, hO, HAL, hRk, hb⟩ := hrel
    have HGK := Lib.hid hgk
    have hk : k ≤ l.length := by omega
    clear hgk
    by_cases hlt : k < l.length
    · have hne : l.drop k ≠ [] := by intro e; have := congrArg List.length e; rw [List.length_drop] at this; simp at this; omega
      have HOK := Lib.hid (fun h => allL_ok hne h)
      have HBAD := Lib.hid (fun h => allL_bad (l := l.drop k) h)
      have HLEN := Lib.hid (fun (h : (unwrapL (l.drop k)).2.2 = 0) => unwrapL_ok_len (l := l.drop k) (p := (unwrapL (l.drop k)).1) (n := (unwrapL (l.drop k)).2.1) (by rw [← h]))
      have hl' := HL.out.later hb
      obtain ⟨b, off, rfl⟩ : ∃ b off, p = some ⟨b, off, none⟩ := by
        have h0 : (bys l)[0]? = some _ := List.getElem?_eq_getElem (by simp [bys]; omega)
        obtain ⟨b, off, h, _⟩ := hl'.1.get h0
        exact ⟨b, off, h⟩
      have hud := unwrapL_bytes (l := l.drop k) (fun x hx => hl'.2 x (List.mem_of_mem_drop hx))
      have HUW := Lib.hid (unwrap_any _ _ _ _ wr (hl'.dropk hk))
      clear hl' hne
      have hk0 : (0 : Int) ≤ (k : Int) := by omega
      have hkl : (k : Int) ≤ (l.length : Int) := by omega
      have hkc : (k : Int) ≤ (c : Int) := by omega
      have hd1 : decide ((k : Int) < (l.length : Int)) = true := by simp; omega
      have hd2 : decide (k < l.length) = true := by simp; omega
      have hcz : ((c : Int) - (k : Int) == 0) = false := by simp; omega
      go_wp2_with fail
      refine HUW.out.mono ?_; rintro e w1 ⟨p1, c1, rfl, ho1, hb1⟩
      have hbz := hb.size
      have hbb := hb.trans (hb1.mono hbz)
      have hO1 := hO.later hb1
      have HQB := Lib.hid (fun j e => (hO.outer.lt j e).2)
      generalize hU : unwrapL (l.drop k) = U at *
      obtain ⟨pl, nn, er⟩ := U
      have HU := Lib.hid hU
      clear hU hO
      dsimp only at hud ho1 HOK HBAD HLEN ⊢
      by_cases he : er = 0
      · subst he
        obtain ⟨hn4, hnl⟩ := HLEN.out rfl
        have hld := List.length_drop (i := k) (l := l)
        rw [hld] at hnl
        clear hld
        have HOK2 := Lib.hid (HOK.out rfl)
        have hfar : ∀ j, (Value.slice p1 pl.length c1).ownBlock = some j → (Value.slice q R.length d).ownBlock ≠ some j := fun j hj e => by
          have h1 := (ho1.lt j hj).1; have h2 := HQB.out j e; omega
        have HFAR := Lib.hid hfar
        have hou := hO1.outer
        clear hfar
        go_wp2_with (at_builtin; refine wp_app1h (w0 := w) rfl (.tmp 23) (.tmp 25) _ rfl w.heap.size 40 rfl inf_bs rfl (by decide) rfl hou (us := [.slice p1 pl.length c1]) rfl rfl rfl (by simp [Value.oneCell']) (by unfold maxLen; omega) (by omega) hbb (by have := hb1.size; omega) ?_; intro p3 c3 w3 hown3 hb3 hs3 hg3 hnb3)
        have hpush := hO1.push hg3 hud (own_mono ho1 (by omega)) HFAR.out hown3 hnb3
        go_wp2_with fail
        have hlR : (R ++ [pl]).length = R.length + 1 := by simp
        have HLR := Lib.hid hlR
        have hal : allL l = ((R ++ [pl]) ++ (allL (l.drop (k + nn))).1, (k + nn) + (allL (l.drop (k + nn))).2) := by
          rw [HAL.out, HOK2.out, List.drop_drop, List.append_assoc, Nat.add_assoc]; rfl
        have HAL2 := Lib.hid hal
        clear hal hlR
        go_roundg (l.length - (k + nn))
        case measure => have := HGK.out; omega
        case rel => exact ⟨k + nn, p3, c3, vs ++ [.slice p1 pl.length c1], R ++ [pl], by go_num, by omega, by rw [HLR.out], by rw [HLR.out]; exact hpush, HAL2, by rw [HLR.out]; omega, hb3⟩
      · have hne : ((er : Int) != 0) = true := by simp; omega
        have hal : allL l = (R, k) := by
          rw [HAL.out, HBAD.out he, List.append_nil, Nat.add_zero]
        have HAL2 := Lib.hid hal
        clear hal he
        go_wp2_with fail
        go_ret2
        rw [HAL2.out]
        first | exact ⟨_, vs, rfl, hO1, hbb⟩ | exact ⟨_, rfl, ⟨vs, hO1⟩, hbb⟩
    · obtain rfl : k = l.length := by omega
      have hd1 : decide ((l.length : Int) < (l.length : Int)) = false := by simp
      have hal : allL l = (R, l.length) := by
        have e := HAL.out
        rw [List.drop_length, allL_nil, List.append_nil, Nat.add_zero] at e
        exact e
      have HAL2 := Lib.hid hal
      clear hal
      go_wp2_with fail
      go_ret2
      rw [HAL2.out]
      first | exact ⟨_, vs, rfl, hO, hb⟩ | exact ⟨_, rfl, ⟨vs, hO⟩, hb⟩
end Go.Proofs.Ytnkkhfggfhbibaa
