/- The walk of the function value inside ckpt.Encode: numbers written behind what was written. -/
import Derived.Test.YtmdbcknlipahgaaDoorPut
import Derived.Test.YtmdbcknlipahgaaDoorBoxed
import Derived.Test.YtmdbcknlipahgaaDoorHeldL
import Derived.Test.YtmdbcknlipahgaaDoorPGet
import Derived.Deep.LoopGhost
import Derived.Deep.DeepCutAuto
import Derived.IntWalk
namespace Go.Proofs.YtmdbcknlipahgaaDoor
open Go.RowKit
theorem Bx.one' {w : World} {g : Nat} {a : Value} (h : Bx w g [a]) : w.cell? ⟨g, 0, none⟩ = some a ∧ w.frozen? ⟨g, 0, none⟩ = false := by
  have h1 := h.one
  obtain ⟨t, h⟩ := h
  exact ⟨h1, frozen_of_row w g 0 _ _ h⟩
theorem Bx.at {w : World} {g i : Nat} {cs : List Value} {u : Value} (h : Bx w g cs) (hi : cs[i]? = some u) : w.cell? ⟨g, i, none⟩ = some u ∧ w.frozen? ⟨g, i, none⟩ = false := by
  obtain ⟨t, h⟩ := h
  refine ⟨?_, frozen_of_row w g i _ _ h⟩
  rw [cell_of_row w g i _ _ _ h]
  simpa using hi
theorem Bx.five {w : World} {g : Nat} {a b c d e : Value} (h : Bx w g [a, b, c, d, e]) :
    w.cell? ⟨g, 0, none⟩ = some a ∧ w.cell? ⟨g, 1, none⟩ = some b ∧ w.cell? ⟨g, 2, none⟩ = some c ∧ w.cell? ⟨g, 3, none⟩ = some d ∧ w.cell? ⟨g, 4, none⟩ = some e :=
  ⟨(h.at rfl).1, (h.at rfl).1, (h.at rfl).1, (h.at rfl).1, (h.at rfl).1⟩
theorem Bx.fiveF {w : World} {g : Nat} {a b c d e : Value} (h : Bx w g [a, b, c, d, e]) :
    w.frozen? ⟨g, 0, none⟩ = false ∧ w.frozen? ⟨g, 1, none⟩ = false ∧ w.frozen? ⟨g, 2, none⟩ = false ∧ w.frozen? ⟨g, 3, none⟩ = false ∧ w.frozen? ⟨g, 4, none⟩ = false := by
  obtain ⟨t, h⟩ := h
  exact ⟨frozen_of_row w g 0 _ _ h, frozen_of_row w g 1 _ _ h, frozen_of_row w g 2 _ _ h, frozen_of_row w g 3 _ _ h, frozen_of_row w g 4 _ _ h⟩
/-- bytes that are written: the box at g; its row is the writer's own, made behind B -/
def Ink (w : World) (B g : Nat) (acc : List Nat) : Prop :=
  ∃ (p : Option Addr) (n c : Nat), Bx w g [.slice p n c] ∧ w.ownsRow B 5 1 (.slice p n c) n (bys acc)
theorem Ink.keep {w w' : World} {B g : Nat} {acc : List Nat} (h : Ink w B g acc) (hb : Below w.heap.size w w') : Ink w' B g acc := by
  obtain ⟨p, n, c, h1, h2⟩ := h
  exact ⟨p, n, c, h1.next hb, own_later h2 hb⟩
theorem grown_of_belowO {w w' : World} {o : Option Nat} (hb : Below w.heap.size w w') : w.grownBy w' o :=
  ⟨hb.os, hb.tape, hb.output, hb.size, fun k hk _ => hb.block k hk⟩
theorem sl_grownO {w w' : World} {size : Nat} {v : Value} {n : Nat} {xs : List Value} {o : Option Nat} (h : Sl w size v n xs) (hg : w.grownBy w' o) (ho : ∀ b off, v = .slice (some ⟨b, off, none⟩) n (match v with | .slice _ _ c => c | _ => 0) → o ≠ some b) : Sl w' size v n xs := by
  obtain ⟨p, cap, rfl, h1, h2, h3, h4, h5⟩ := h
  refine ⟨p, cap, rfl, h1, h2, h3, h4, ?_⟩
  rcases h5 with h5 | ⟨b, off, rfl, h5⟩
  · exact .inl h5
  · exact .inr ⟨b, off, rfl, fun j u hj => by rw [World.cell?_of_block (hg.block b (World.block_lt_of_cell? w _ (h5 j u hj)) (fun e => ho b off rfl e.symm))]; exact h5 j u hj⟩
def putsN (xs : List Nat) : List Nat := xs.flatMap put
theorem putsN_snoc (xs : List Nat) (x : Nat) : putsN (xs ++ [x]) = putsN xs ++ put x := by simp [putsN]
theorem bys_oneC (l : List Nat) : ∀ u ∈ bys l, u.oneCell' = true := by
  intro u hu
  obtain ⟨x, _, rfl⟩ := List.mem_map.1 hu
  rfl
theorem putsN_len : ∀ (xs : List Nat), (∀ x ∈ xs, x < U64) → (putsN xs).length ≤ 10 * xs.length
  | [], _ => Nat.le_refl _
  | x :: xs, h => by
    have h1 := putsN_len xs (fun y hy => h y (by simp [hy]))
    have h2 := put_len10 (h x (by simp))
    have e : (putsN (x :: xs)).length = (put x).length + (putsN xs).length := by simp [putsN]
    rw [e, List.length_cons]; omega
set_option maxHeartbeats 4000000 in
set_option maxRecDepth 100000 in
theorem encput_ok (g B n c L : Nat) (xs acc : List Nat) (w1 w : World) (hi : Ink w1 B g acc) (hgB : g < B) (hB1 : B ≤ w1.heap.size) (hw : Below w1.heap.size w1 w) (hL : w1.heap.size ≤ L)
    (hl : Sl w 1 (.slice (some ⟨L, 0, none⟩) n c) n (nts xs)) (hx : ∀ x ∈ xs, x < 9223372036854775808) (hlen : acc.length ≤ 1000000) (hn : n ≤ 100000) :
    Calls Tryd.prog 41 #[.slice (some ⟨L, 0, none⟩) n c, .pointer (some ⟨g, 0, none⟩)] w fun e w' => e = .returned (.tuple #[]) ∧ Ink w' B g (acc ++ putsN xs) ∧ Below g w w' := by
  obtain ⟨hnc, hc63, hll⟩ : n ≤ c ∧ c ≤ 9223372036854775807 ∧ n = xs.length := by
    obtain ⟨p', c', hp, h1, h2, h3, _⟩ := hl
    cases hp
    rw [nts_len] at h3
    exact ⟨h1, by unfold maxLen at h2; omega, by omega⟩
  have hi' := hi.keep hw
  obtain ⟨p0, n0, c0, hbx0, hown0⟩ := hi
  have hfar0 : (Value.slice p0 n0 c0).ownBlock ≠ some L := fun e => by have := (hown0.lt L e).2; omega
  have hbx1 := hbx0.next hw
  have hown1 := own_later hown0 hw
  have hn0 : n0 = acc.length := by have := hown0.1; rw [bys_len] at this; omega
  have HLL := Lib.hid hll
  have HXX := Lib.hid hx
  have HB := Lib.hid hbx1
  have HO := Lib.hid hown1
  have HS := Lib.hid hl
  have HW := Lib.hid hw.size
  have hLw : L < w.heap.size ∨ n = 0 := by
    by_cases h0 : 0 < n
    · left
      have hk : 0 < xs.length := by omega
      obtain ⟨b, off, hp, hcell⟩ := hl.get (nts_at hk)
      cases hp
      exact World.block_lt_of_cell? w _ hcell
    · right; omega
  have HLW := Lib.hid hLw
  have HB1 := Lib.hid hB1
  have HLG := Lib.hid (show g < L by have := hB1; omega)
  clear hi' hbx0 hown0 hbx1 hown1 hl hw hx hll hLw
  go_enter Tryd.func41, Tryd.ntmps41
  go_wp2_with fail
  go_loopg [4, 7] n (fun gk v4 v7 wr => ∃ (k : Nat) (p : Option Addr) (m c' : Nat), v7 = .int .i64 (k : Int) ∧ k + gk = n ∧ Hid (Bx wr g [.slice p m c']) ∧ Hid (wr.ownsRow B 5 1 (.slice p m c') m (bys (acc ++ putsN (xs.take k)))) ∧ Hid (Sl wr 1 (.slice (some ⟨L, 0, none⟩) n c) n (nts xs)) ∧ Hid ((Value.slice p m c').ownBlock ≠ some L) ∧ Hid (m = acc.length + (putsN (xs.take k)).length) ∧ Hid (Below g w wr))
  case atStart => exact ⟨0, p0, n0, c0, rfl, by omega, HB, by simpa [putsN] using HO, HS, Lib.hid hfar0, Lib.hid (by simp [putsN]; exact hn0), Lib.hid (Below.refl _ _)⟩
  case round =>
    obtain ⟨k, p, m, c', rfl, hgk, HBR, HOR, HSR, HF, HM, HBL⟩ := hrel
    have HGK := Lib.hid hgk
    have hk : k ≤ n := by omega
    clear hgk
    by_cases hlt : k < n
    · have hkl : k < xs.length := by have := HLL.out; omega
      obtain ⟨b2, off2, hp2, hs0⟩ := HSR.out.get (nts_at hkl)
      cases hp2
      rw [Nat.zero_add] at hs0
      have HTS := Lib.hid (show putsN (xs.take (k + 1)) = putsN (xs.take k) ++ put xs[k] by rw [List.take_succ_eq_append_getElem hkl, putsN_snoc])
      have hxk := HXX.out _ (List.getElem_mem hkl)
      have hml : m ≤ 1000000 + 1000000 := by
        have h1 := HM.out
        have h2 := putsN_len (xs.take k) (fun x hx => by have := HXX.out x (List.mem_of_mem_take hx); unfold U64; omega)
        rw [List.length_take] at h2
        omega
      generalize xs[k] = x at hs0 HTS hxk
      have HPUT := Lib.hid (fun (W : World) => put_any x W (by unfold U64; omega))
      have hpl := put_len10 (n := x) (by unfold U64; omega)
      obtain ⟨u, hu⟩ : ∃ u, u = (put x).length := ⟨_, rfl⟩
      have HU := Lib.hid hu
      rw [← hu] at HPUT hpl
      have hk0 : (0 : Int) ≤ (k : Int) := by omega
      have hkn : (k : Int) < (n : Int) := by omega
      have hd1 : decide ((k : Int) < (n : Int)) = true := by simp; omega
      have hd2 : decide (k < n) = true := by simp; omega
      have hwx : IntKind.u64.wrap (x : Int) = (x : Int) := IntWalk.u64_in _ (by omega)
      have hsw := HBL.out.size
      have hLwr : L < wr.heap.size := by rcases HLW.out with h | h <;> omega
      clear hlt hu
      go_upto_region 3 with fail
      obtain ⟨hq2, -⟩ := HBR.out.one'
      obtain ⟨S, hSI⟩ : ∃ S : World → Prop, ∀ w', S w' ↔ (w'.cell? ⟨g, 0, none⟩ = some (Value.slice p m c')) := ⟨fun w' => _, fun w' => Iff.rfl⟩
      have HSI := Lib.hid hSI
      clear hSI
      refine wp_region_L S 5 (by kernel_rfl) ((HSI.out _).2 hq2) (fun hS => ?_)
      clear hq2 hs0
      refine wpAnyL_take 0 (v := ?_) rfl rfl (by kernel_rfl) (by kernel_rfl) (by kernel_rfl) (by kernel_rfl) (fun _ _ _ h => h) (Or.inl ⟨by rfl, ?_⟩) hS ?_; rotate_left; · intro w hSw; have hz0 := (HSI.out w).1 hSw; go_simp <;> with_reducible rfl
      try simp only [Act.put, List.setIfInBounds_toArray, List.set_cons_zero, List.set_cons_succ]
      refine wpAnyL_take 1 (v := ?_) rfl rfl (by kernel_rfl) (by kernel_rfl) (by kernel_rfl) (by kernel_rfl) (fun _ _ _ h => h) (Or.inl ⟨by rfl, ?_⟩) hS ?_; rotate_left; · intro w hSw; go_simp <;> with_reducible rfl
      try simp only [Act.put, List.setIfInBounds_toArray, List.set_cons_zero, List.set_cons_succ]
      refine wpAnyL_take 2 (v := .int .u64 (x : Int)) rfl rfl (by kernel_rfl) (by kernel_rfl) (by kernel_rfl) (by kernel_rfl) (fun _ _ _ h => h) (Or.inl ⟨by rfl, ?_⟩) hS ?_; · intro w hSw; go_simp <;> with_reducible rfl
      try simp only [Act.put, List.setIfInBounds_toArray, List.set_cons_zero, List.set_cons_succ]
      refine wpAnyL_one 3 rfl rfl (by kernel_rfl) ?_; intro K hK; rw [if_pos (by rfl)]
      go_simp
      refine (HPUT.out _).mono ?_; rintro e w6 ⟨p6, c6, rfl, ho6, hb6⟩
      have hc6 : Below wr.heap.size wr w6 := (Below.refl _ wr).drew.trans hb6
      have hz6 := hc6.size
      have hB6 := HBR.out.next hc6
      have hO6 := own_later HOR.out hc6
      have hq2 := hB6.one'.1
      refine hK.out _ _ (fun _ => (HSI.out _).2 hq2) ?_; clear hK K
      have hS := (HSI.out _).2 hq2
      clear hq2
      try simp only [Act.put, List.setIfInBounds_toArray, List.set_cons_zero, List.set_cons_succ]
      refine wpAnyL_one 4 rfl rfl (by kernel_rfl) ?_; intro K hK; rw [if_pos (by rfl)]
      refine wp_app_op (w0 := w6) (.tmp 11) (.tmp 14) _ rfl B 5 rfl inf_u8 rfl (by decide) rfl hO6 rfl (news := bys (put x)) (Sl.of_own ho6) (bys_oneC _) (by unfold maxLen; omega) (by omega) (Below.refl _ _) (by have := HW.out; have := HB1.out; omega) ?_
      intro p7 c7 w7 hown7 hb7 hs7 hg7 hnb7
      clear hS
      have hB8 := hB6.grown hg7 (fun e => by have := (hO6.lt _ e).1; omega)
      obtain ⟨hq2, hqf⟩ := hB8.one'
      refine hK.out _ _ (fun _ => (HSI.out _).2 hq2) ?_; clear hK K
      try simp only [Act.put, List.setIfInBounds_toArray, List.set_cons_zero, List.set_cons_succ]
      refine wpAnyL_one 5 rfl rfl (by kernel_rfl) ?_; intro K hK; rw [if_pos (by rfl)]
      go_simp
      refine hK.out _ _ (fun h => absurd rfl h) ?_; clear hK K
      refine wpAnyL_done (by kernel_rfl) ?_ _
      have hgw : g < w6.heap.size := hB6.lt
      have HX10 := Lib.hid (show Bx (w7.setCell ⟨g, 0, none⟩ (.slice p7 (m + u) c7)) g [.slice p7 (m + u) c7] from hB8.setc 0 _)
      have HO10 := Lib.hid (show (w7.setCell ⟨g, 0, none⟩ (.slice p7 (m + u) c7)).ownsRow B 5 1 (.slice p7 (m + u) c7) (m + u) (bys (acc ++ putsN (xs.take (k + 1)))) from by
        rw [HTS.out, ← List.append_assoc, bys_append]
        exact own_ne_st hown7 hgB _ _)
      have hLr : L < wr.heap.size := hLwr
      have hg6 : wr.grownBy w7 (Value.slice p m c').ownBlock := grown_trans (grown_of_belowO hc6) hg7
      have hsl : Sl w7 1 (.slice (some ⟨L, 0, none⟩) n c) n (nts xs) := sl_grownO HSR.out hg6 (fun b off e => by cases e; exact HF.out)
      have HS10 := Lib.hid (show Sl (w7.setCell ⟨g, 0, none⟩ (.slice p7 (m + u) c7)) 1 (.slice (some ⟨L, 0, none⟩) n c) n (nts xs) from sl_grownO hsl grown_set (fun b off e => by cases e; intro e; cases e; have := HLG.out; omega))
      have HF10 := Lib.hid (show (Value.slice p7 (m + u) c7).ownBlock ≠ some L from by
        rcases hnb7 with h | h
        · rw [h]; exact HF.out
        · rw [h]; intro e; cases e; omega)
      have HM10 := Lib.hid (show m + u = acc.length + (putsN (xs.take (k + 1))).length from by rw [HTS.out, List.length_append, ← HU.out]; have := HM.out; omega)
      have HB10 := Lib.hid (show Below g w (w7.setCell ⟨g, 0, none⟩ (.slice p7 (m + u) c7)) from ((HBL.out.trans (hc6.mono (by omega))).grown hg7 (by omega) (fun j hj => by have := (hO6.lt j hj).1; omega)).setCell (Nat.le_refl _) _)
      clear hq2 hqf hB8 hown7 hb7 hs7 hg7 hnb7 hg6 hsl hB6 hO6 hb6 ho6
      go_wp2_with fail
      go_roundg (n - (k + 1))
      case measure => have := HGK.out; omega
      case rel => exact ⟨k + 1, p7, m + u, c7, by go_num, by omega, HX10, HO10, HS10, HF10, HM10, HB10⟩
    · obtain rfl : n = k := by omega
      have hd1 : decide ((n : Int) < (n : Int)) = false := by simp
      have hd2 : decide (n < n) = false := by simp
      have HOn := Lib.hid (show wr.ownsRow B 5 1 (.slice p m c') m (bys (acc ++ putsN xs)) from by have h := HOR.out; rw [List.take_of_length_le (by have := HLL.out; omega)] at h; exact h)
      go_wp2_with fail
      go_end0
      exact ⟨rfl, ⟨p, m, c', HBR.out, HOn.out⟩, HBL.out⟩
end Go.Proofs.YtmdbcknlipahgaaDoor
