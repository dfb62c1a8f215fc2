/- The walks of the methods of paths.spots, and the heap that they make. -/
import Derived.Test.YtiaflhlfodcbjaaHpS
import Derived.Test.YtiaflhlfodcbjaaMailR
import Derived.Test.YtiaflhlfodcbjaaHeldL
import Derived.Test.YtiaflhlfodcbjaaRdV
import Derived.Test.YtiaflhlfodcbjaaPGraph
import Derived.Test.YtiaflhlfodcbjaaSortOwn
import Derived.Deep.QuietTactic
import Derived.Deep.RegionHeld3
import Derived.BigQuiet
namespace Go.Proofs.Ytiaflhlfodcbjaa
open Go.RowKit Go.Sort Go.Proofs
theorem inf_spot : (Try.prog.info? 87).map (fun i => (i.zero, i.size, i.bytes)) = some (some (.agg #[.int .i64 0, .int .i64 0]), 2, 16) := by kernel_rfl
theorem mcs_putS (l : List (Nat × Nat)) (i : Nat) (x : Nat × Nat) : ((mcs l).set (i * 2) (.int .i64 (x.1 : Int))).set (i * 2 + 1) (.int .i64 (x.2 : Int)) = mcs (l.set i x) := by
  apply List.ext_getElem?
  intro j
  have hlen := mcs_len l
  have hlen2 := mcs_len (l.set i x)
  rw [List.length_set] at hlen2
  by_cases hj : j < l.length * 2
  · have hd : j / 2 < l.length := by omega
    have h1 := flatMap_at encM 2 (fun _ => rfl) (by decide) (l.set i x) j (by rw [List.length_set]; exact hj)
    have h2 := flatMap_at encM 2 (fun _ => rfl) (by decide) l j hj
    rw [← mcs_enc] at h1 h2
    rw [h1, List.getElem?_set, List.getElem?_set, h2]
    have e1 : (l.set i x).toArray[j / 2]! = if i = j / 2 then x else l[j / 2] := by
      rw [getElem!_pos _ _ (by simpa using hd)]
      simp [List.getElem_set]
    have e2 : l.toArray[j / 2]! = l[j / 2] := by simp [hd]
    rw [e1, e2, List.length_set, hlen]
    by_cases h3 : i * 2 + 1 = j
    · rw [if_pos h3, if_pos (by omega), if_pos (by omega), show j % 2 = 1 by omega]; rfl
    · rw [if_neg h3]
      by_cases h4 : i * 2 = j
      · rw [if_pos h4, if_pos (by omega), if_pos (by omega), show j % 2 = 0 by omega]; rfl
      · rw [if_neg h4, if_neg (by omega)]
  · rw [List.getElem?_eq_none (by simp [hlen]; omega), List.getElem?_eq_none (by rw [hlen2]; omega)]
/-- spots that lie in a heap: the box at g; the row is the call's own -/
def SpSt (B g x : Nat) (cs : List Value) (W : World) (l : List (Nat × Nat)) : Prop :=
  ∃ (p : Option Addr) (c : Nat), Bx W g [.slice p l.length c] ∧ W.ownsRow B 87 2 (.slice p l.length c) l.length (mcs l) ∧ (Value.slice p l.length c).ownBlock ≠ some g ∧ B ≤ g ∧ Bx W x cs ∧ (Value.slice p l.length c).ownBlock ≠ some x ∧ x ≠ g
def spV (a : Nat × Nat) : Value := .iface 87 (.agg #[.int .i64 (a.1 : Int), .int .i64 (a.2 : Int)])
theorem sp_cells {W : World} {B g : Nat} {l : List (Nat × Nat)} {p : Option Addr} {c : Nat} (ho : W.ownsRow B 87 2 (.slice p l.length c) l.length (mcs l)) (hne : (Value.slice p l.length c).ownBlock ≠ some g) {i : Nat} {a : Nat × Nat} (h : l[i]? = some a) :
    ∃ k, p = some ⟨k, 0, none⟩ ∧ (B ≤ k ∧ g ≠ k) ∧ k < W.heap.size ∧ l.length ≤ c ∧ c ≤ 9223372036854775807 ∧ W.cell? ⟨k, i * 2, none⟩ = some (.int .i64 (a.1 : Int)) ∧ W.cell? ⟨k, i * 2 + 1, none⟩ = some (.int .i64 (a.2 : Int)) := by
  have hi := (List.getElem?_eq_some_iff.1 h).1
  have he := (List.getElem?_eq_some_iff.1 h).2
  obtain ⟨b, off, hp, h0, h1⟩ := (Sl.of_own ho).mail hi
  obtain ⟨k, hp2, -, hk1, hk2⟩ := own_ptr ho (by omega)
  rw [hp2] at hp
  cases hp
  rw [he] at h0 h1
  have hlt := ho.lt b (by rw [hp2]; rfl)
  rw [Nat.zero_add] at h0 h1
  exact ⟨b, hp2, ⟨hlt.1, fun e => hne (by rw [hp2, e]; rfl)⟩, hlt.2, hk1, hk2, h0, h1⟩
set_option maxHeartbeats 1000000 in
set_option maxRecDepth 100000 in
theorem spLen_ok (W : World) (p : Option Addr) (n c : Nat) : Calls Try.prog 107 #[.slice p n c] W fun e w' => e = .returned (.int .i64 (n : Int)) ∧ W = w' := by
  go_enter Try.func107, Try.ntmps107
  go_wp2_with fail
  go_ret
  exact ⟨rfl, rfl⟩
set_option maxHeartbeats 4000000 in
set_option maxRecDepth 100000 in
theorem spLess_ok (B g : Nat) (W : World) (l : List (Nat × Nat)) (i j : Nat) (a b : Nat × Nat) (p : Option Addr) (c : Nat) (ho : W.ownsRow B 87 2 (.slice p l.length c) l.length (mcs l)) (hne : (Value.slice p l.length c).ownBlock ≠ some g) (hi : l[i]? = some a) (hj : l[j]? = some b) :
    Calls Try.prog 108 #[.slice p l.length c, .int .i64 (i : Int), .int .i64 (j : Int)] W fun e w' => e = .returned (.bool (decide (a.2 < b.2))) ∧ ∃ m, w' = W.drewN m := by
  have hil := (List.getElem?_eq_some_iff.1 hi).1
  have hjl := (List.getElem?_eq_some_iff.1 hj).1
  obtain ⟨k, rfl, hgk, hkW, hlc, hc63, hi0, hi1⟩ := sp_cells ho hne hi
  obtain ⟨k', hk', -, -, -, -, hj0, hj1⟩ := sp_cells ho hne hj
  cases hk'
  obtain ⟨x1, x2⟩ := a
  obtain ⟨y1, y2⟩ := b
  dsimp only at hi0 hi1 hj0 hj1 ⊢
  generalize l.length = n at *
  have hk0 : (0 : Int) ≤ (i : Int) := by omega
  have hkn : (i : Int) < (n : Int) := by omega
  have hk1 : (0 : Int) ≤ (j : Int) := by omega
  have hkm : (j : Int) < (n : Int) := by omega
  clear ho hi hj
  go_enter Try.func108, Try.ntmps108
  go_wp2_with fail
  go_quiet (fail)
  go_wp2_with fail
  go_ret
  exact ⟨rfl, nq, rfl⟩
theorem bx_pairS (W : World) (a b : List Value) (t : TypeId) : Bx ((W.alloc (.cells a.toArray t)).alloc (.cells b.toArray t)).drew W.heap.size a ∧ Bx ((W.alloc (.cells a.toArray t)).alloc (.cells b.toArray t)).drew (W.heap.size + 1) b ∧ Below W.heap.size W ((W.alloc (.cells a.toArray t)).alloc (.cells b.toArray t)).drew := by
  have e : (W.alloc (.cells a.toArray t)).heap.size = W.heap.size + 1 := by simp
  have h2 := bx_new (W.alloc (.cells a.toArray t)) b t
  rw [e] at h2
  exact ⟨(bx_new W a t).alloc _, h2, ((alloc_below W _).trans ((alloc_below (W.alloc (.cells a.toArray t)) _).mono (by simp))).drew⟩
set_option maxHeartbeats 8000000 in
set_option maxRecDepth 100000 in
theorem spSwap_ok (B g x : Nat) (cs : List Value) (hBg : B ≤ g) (W : World) (hXx : Bx W x cs) (l : List (Nat × Nat)) (i j : Nat) (a b : Nat × Nat) (p : Option Addr) (c : Nat) (hX : Bx W g [.slice p l.length c]) (ho : W.ownsRow B 87 2 (.slice p l.length c) l.length (mcs l)) (hne : (Value.slice p l.length c).ownBlock ≠ some g) (hnx : (Value.slice p l.length c).ownBlock ≠ some x) (hi : l[i]? = some a) (hj : l[j]? = some b) :
    Calls Try.prog 109 #[.slice p l.length c, .int .i64 (i : Int), .int .i64 (j : Int)] W fun e w' => e = .returned (.tuple #[]) ∧ Bx w' g [.slice p l.length c] ∧ w'.ownsRow B 87 2 (.slice p l.length c) l.length (mcs (swp l i j a b)) ∧ Below B W w' ∧ Bx w' x cs := by
  have hil := (List.getElem?_eq_some_iff.1 hi).1
  have hjl := (List.getElem?_eq_some_iff.1 hj).1
  obtain ⟨k, rfl, hgk, hkW, hlc, hc63, hi0, hi1⟩ := sp_cells ho hne hi
  obtain ⟨k', hk', -, -, -, -, hj0, hj1⟩ := sp_cells ho hne hj
  cases hk'
  obtain ⟨x1, x2⟩ := a
  obtain ⟨y1, y2⟩ := b
  dsimp only at hi0 hi1 hj0 hj1
  have HX := Lib.hid hX
  have HO := Lib.hid ho
  have hgW := hX.lt
  have HXx := Lib.hid hXx
  have HKX := Lib.hid (show ¬ x = k from fun e => hnx (by rw [e]; rfl))
  clear hXx hnx
  have HSW := Lib.hid (show swp l i j (x1, x2) (y1, y2) = (l.set i (y1, y2)).set j (x1, x2) from rfl)
  obtain ⟨n, hn⟩ : ∃ n, n = l.length := ⟨_, rfl⟩
  have HN := Lib.hid hn
  rw [← hn] at HX HO hil hjl hlc ⊢
  have HC1 := Lib.hid (fun (W1 : World) (hW : Below W.heap.size W W1) => (show W1.cell? ⟨k, i * 2, none⟩ = some (.int .i64 (x1 : Int)) ∧ W1.cell? ⟨k, i * 2 + 1, none⟩ = some (.int .i64 (x2 : Int)) ∧ W1.cell? ⟨k, j * 2, none⟩ = some (.int .i64 (y1 : Int)) ∧ W1.cell? ⟨k, j * 2 + 1, none⟩ = some (.int .i64 (y2 : Int)) from
    ⟨(hW.cell (p := ⟨k, i * 2, none⟩) hkW).trans hi0, (hW.cell (p := ⟨k, i * 2 + 1, none⟩) hkW).trans hi1, (hW.cell (p := ⟨k, j * 2, none⟩) hkW).trans hj0, (hW.cell (p := ⟨k, j * 2 + 1, none⟩) hkW).trans hj1⟩))
  obtain ⟨hu2, hu3, hu4, hu5⟩ := HC1.out W (Below.refl _ _)
  clear hX ho hi0 hi1 hj0 hj1 hi hj hn
  have hk0 : (0 : Int) ≤ (i : Int) := by omega
  have hkn : (i : Int) < (n : Int) := by omega
  have hk1 : (0 : Int) ≤ (j : Int) := by omega
  have hkm : (j : Int) < (n : Int) := by omega
  have hn3 : ¬ k = W.heap.size := by omega
  have hn4 : ¬ W.heap.size = k := by omega
  have hn7 : ¬ k = W.heap.size + 1 := by omega
  have hn8 : ¬ W.heap.size + 1 = k := by omega
  go_enter Try.func109, Try.ntmps109
  go_upto_region 0 with fail
  go_cut [6, 7] (fun s6 s7 wx => ∃ (g6 g7 : Nat), s6 = .pointer (some ⟨g6, 0, none⟩) ∧ s7 = .pointer (some ⟨g7, 0, none⟩) ∧ W.heap.size ≤ g6 ∧ W.heap.size ≤ g7 ∧ Bx wx g6 [.int .i64 (x1 : Int), .int .i64 (x2 : Int)] ∧ Bx wx g7 [.int .i64 (y1 : Int), .int .i64 (y2 : Int)] ∧ Below W.heap.size W wx)
  case first =>
    go_region_held3 (fun W1 => W1.cell? ⟨k, i * 2, none⟩ = some (.int .i64 (x1 : Int)) ∧ W1.cell? ⟨k, i * 2 + 1, none⟩ = some (.int .i64 (x2 : Int)) ∧ W1.cell? ⟨k, j * 2, none⟩ = some (.int .i64 (y1 : Int)) ∧ W1.cell? ⟨k, j * 2 + 1, none⟩ = some (.int .i64 (y2 : Int)))
      (first | (exact ⟨hu2, hu3, hu4, hu5⟩) | go_keep) (fail)
    all_goals go_wp2_with fail
    all_goals go_meet
    case rel =>
      obtain ⟨q1, q2, q3⟩ := bx_pairS W [.int .i64 (x1 : Int), .int .i64 (x2 : Int)] [.int .i64 (y1 : Int), .int .i64 (y2 : Int)] 87
      exact ⟨_, _, rfl, rfl, Nat.le_refl _, Nat.le_succ _, q1, q2, q3⟩
    case rel =>
      obtain ⟨q1, q2, q3⟩ := bx_pairS W [.int .i64 (y1 : Int), .int .i64 (y2 : Int)] [.int .i64 (x1 : Int), .int .i64 (x2 : Int)] 87
      exact ⟨_, _, rfl, rfl, Nat.le_succ _, Nat.le_refl _, q2, q1, q3⟩
  case rest =>
  obtain ⟨g6, g7, rfl, rfl, hg6, hg7, HB6, HB7, hb4⟩ := hcut
  obtain ⟨w4, hw4⟩ : ∃ w4 : World, w4 = wc := ⟨_, rfl⟩
  rw [← hw4] at HB6 HB7 hb4 ⊢
  clear hw4
  have HO4 := Lib.hid (own_later HO.out hb4)
  have HX4 := Lib.hid (HX.out.next hb4)
  have HXx4 := Lib.hid (HXx.out.next hb4)
  obtain ⟨hu2, hu3, hu4, hu5⟩ := HC1.out w4 hb4
  have f0 := HO4.out.frozenAt (i * 2)
  have f1 := HO4.out.frozenAt (i * 2 + 1)
  have f2 := HO4.out.frozenAt (j * 2)
  have f3 := HO4.out.frozenAt (j * 2 + 1)
  obtain ⟨h60, h61, _, _⟩ := HB6.two
  obtain ⟨h70, h71, _, _⟩ := HB7.two
  have hn12 : ¬ g = k := hgk.2
  have hn13 : ¬ k = g6 := by omega
  have hn14 : ¬ g6 = k := by omega
  have hn15 : ¬ k = g7 := by omega
  have hn16 : ¬ g7 = k := by omega
  clear hn3 hn4 hn7 hn8 HC1
  have HO5 := Lib.hid (show ((w4.setCell ⟨k, i * 2, none⟩ (.int .i64 (y1 : Int))).setCell ⟨k, i * 2 + 1, none⟩ (.int .i64 (y2 : Int))).ownsRow B 87 2 (.slice (some ⟨k, 0, none⟩) n c) n (mcs (l.set i (y1, y2))) from by
    have h := ((HO4.out.stored (i * 2) (.int .i64 (y1 : Int))).1.stored (i * 2 + 1) (.int .i64 (y2 : Int))).1
    rw [mcs_putS l i (y1, y2)] at h
    exact h)
  have HX5 := Lib.hid (show Bx ((w4.setCell ⟨k, i * 2, none⟩ (.int .i64 (y1 : Int))).setCell ⟨k, i * 2 + 1, none⟩ (.int .i64 (y2 : Int))) g [.slice (some ⟨k, 0, none⟩) n c] from bx_oth (bx_oth HX4.out (a := ⟨k, i * 2, none⟩) hn12 _) (a := ⟨k, i * 2 + 1, none⟩) hn12 _)
  have HXx5 := Lib.hid (show Bx ((w4.setCell ⟨k, i * 2, none⟩ (.int .i64 (y1 : Int))).setCell ⟨k, i * 2 + 1, none⟩ (.int .i64 (y2 : Int))) x cs from bx_oth (bx_oth HXx4.out (a := ⟨k, i * 2, none⟩) HKX.out _) (a := ⟨k, i * 2 + 1, none⟩) HKX.out _)
  have HB65 := Lib.hid (show Bx ((w4.setCell ⟨k, i * 2, none⟩ (.int .i64 (y1 : Int))).setCell ⟨k, i * 2 + 1, none⟩ (.int .i64 (y2 : Int))) g6 [.int .i64 (x1 : Int), .int .i64 (x2 : Int)] from bx_oth (bx_oth HB6 (a := ⟨k, i * 2, none⟩) hn14 _) (a := ⟨k, i * 2 + 1, none⟩) hn14 _)
  have hb5 := Lib.hid (show Below B W ((w4.setCell ⟨k, i * 2, none⟩ (.int .i64 (y1 : Int))).setCell ⟨k, i * 2 + 1, none⟩ (.int .i64 (y2 : Int))) from ((hb4.mono (by omega)).setCell (by show B ≤ k; omega) _).setCell (by show B ≤ k; omega) _)
  go_upto_region 2 with fail
  clear hu2 hu3 hu4 hu5 f0 f1 f2 f3 h60 h61 h70 h71 HB6 HB7 hb4 HO4 HX4 HXx4
  generalize ((w4.setCell ⟨k, i * 2, none⟩ (.int .i64 (y1 : Int))).setCell ⟨k, i * 2 + 1, none⟩ (.int .i64 (y2 : Int))) = w5 at *
  obtain ⟨h60, h61, _, _⟩ := HB65.out.two
  have hlL : (mcs (l.set i (y1, y2))).length = n * 2 := by rw [mcs_len, List.length_set, ← HN.out]
  have d0 := HO5.out.cellAt (j * 2) (by omega)
  have d1 := HO5.out.cellAt (j * 2 + 1) (by omega)
  have e0 : ∃ u, w5.cell? ⟨k, j * 2, none⟩ = some u := ⟨_, by rw [d0, List.getElem?_eq_getElem (by omega)]⟩
  have e1 : ∃ u, w5.cell? ⟨k, j * 2 + 1, none⟩ = some u := ⟨_, by rw [d1, List.getElem?_eq_getElem (by omega)]⟩
  clear d0 d1 hlL
  obtain ⟨u0, d0⟩ := e0
  obtain ⟨u1, d1⟩ := e1
  have f2 := HO5.out.frozenAt (j * 2)
  have f3 := HO5.out.frozenAt (j * 2 + 1)
  go_wp2_with fail
  go_end0
  have HO6 := (show ((w5.setCell ⟨k, j * 2, none⟩ (.int .i64 (x1 : Int))).setCell ⟨k, j * 2 + 1, none⟩ (.int .i64 (x2 : Int))).ownsRow B 87 2 (.slice (some ⟨k, 0, none⟩) n c) n (mcs (swp l i j (x1, x2) (y1, y2))) from by
    have h := ((HO5.out.stored (j * 2) (.int .i64 (x1 : Int))).1.stored (j * 2 + 1) (.int .i64 (x2 : Int))).1
    rw [mcs_putS (l.set i (y1, y2)) j (x1, x2)] at h
    rw [HSW.out]
    exact h)
  exact ⟨rfl, bx_oth (bx_oth HX5.out (a := ⟨k, j * 2, none⟩) hn12 _) (a := ⟨k, j * 2 + 1, none⟩) hn12 _, HO6, (hb5.out.setCell (by show B ≤ k; omega) _).setCell (by show B ≤ k; omega) _, bx_oth (bx_oth HXx5.out (a := ⟨k, j * 2, none⟩) HKX.out _) (a := ⟨k, j * 2 + 1, none⟩) HKX.out _⟩
set_option maxHeartbeats 4000000 in
set_option maxRecDepth 100000 in
theorem spPush_ok (B g x : Nat) (cs : List Value) (W : World) (l : List (Nat × Nat)) (a : Nat × Nat) (h : SpSt B g x cs W l) (hl : l.length < 90000) :
    Calls Try.prog 111 #[.pointer (some ⟨g, 0, none⟩), spV a] W fun e w' => e = .returned (.tuple #[]) ∧ SpSt B g x cs w' (l ++ [a]) ∧ Below B W w' := by
  obtain ⟨p, c, hX, ho, hne, hBg, hXx, hnx, hxg⟩ := h
  have HNE := Lib.hid hne
  have HNX := Lib.hid hnx
  have HXx := Lib.hid hXx
  have hxW := hXx.lt
  clear hne hnx hXx
  obtain ⟨x1, x2⟩ := a
  have HX := Lib.hid hX
  have HO := Lib.hid ho
  have hgW := hX.lt
  have hq2 := hX.one
  have HCE := Lib.hid (show mcs (l ++ [(x1, x2)]) = mcs l ++ [.int .i64 (x1 : Int), .int .i64 (x2 : Int)] from mcs_snoc l (x1, x2))
  have HLA := Lib.hid (show (l ++ [(x1, x2)]).length = l.length + 1 by simp)
  obtain ⟨n, hn⟩ : ∃ n, n = l.length := ⟨_, rfl⟩
  rw [← hn] at HX HO HLA hl hq2 HNE HNX
  clear hX ho hn
  unfold spV
  dsimp only
  have hta : ∀ (W : World), (Instr.typeAssert (.iface 87 (.agg #[.int .i64 (x1 : Int), .int .i64 (x2 : Int)])) 20 87 false).run Try.prog W = .ok (.agg #[.int .i64 (x1 : Int), .int .i64 (x2 : Int)]) W := fun _ => by kernel_rfl
  go_enter Try.func111, Try.ntmps111
  go_upto_region 0 with fail
  obtain ⟨S, hSI⟩ : ∃ S : World → Prop, ∀ w', S w' ↔ (w'.cell? ⟨g, 0, none⟩ = some (Value.slice p n c)) := ⟨fun w' => _, fun w' => Iff.rfl⟩
  have HSI := Lib.hid hSI
  clear hSI
  refine wp_region_L S 9 (by kernel_rfl) ((HSI.out _).2 hq2) (fun hS => ?_)
  clear hq2
  refine wpAnyL_take 0 (v := ?_) rfl rfl (by kernel_rfl) (by kernel_rfl) (by kernel_rfl) (by kernel_rfl) (fun _ _ _ h => h) (Or.inl ⟨by rfl, ?_⟩) hS ?_; rotate_left; · intro w hSw; go_simp <;> with_reducible rfl
  try simp only [Act.put, List.setIfInBounds_toArray, List.set_cons_zero, List.set_cons_succ]
  refine wpAnyL_take 1 (v := ?_) rfl rfl (by kernel_rfl) (by kernel_rfl) (by kernel_rfl) (by kernel_rfl) (fun _ _ _ h => h) (Or.inl ⟨by rfl, ?_⟩) hS ?_; rotate_left; · intro w hSw; go_simp <;> with_reducible rfl
  try simp only [Act.put, List.setIfInBounds_toArray, List.set_cons_zero, List.set_cons_succ]
  refine wpAnyL_take 2 (v := ?_) rfl rfl (by kernel_rfl) (by kernel_rfl) (by kernel_rfl) (by kernel_rfl) (fun _ _ _ h => h) (Or.inl ⟨by rfl, ?_⟩) hS ?_; rotate_left; · intro w hSw; go_simp <;> with_reducible rfl
  try simp only [Act.put, List.setIfInBounds_toArray, List.set_cons_zero, List.set_cons_succ]
  refine wpAnyL_take 3 (v := ?_) rfl rfl (by kernel_rfl) (by kernel_rfl) (by kernel_rfl) (by kernel_rfl) (fun _ _ _ h => h) (Or.inl ⟨by rfl, ?_⟩) hS ?_; rotate_left; · intro w hSw; have hz0 := (HSI.out w).1 hSw; go_simp <;> with_reducible rfl
  try simp only [Act.put, List.setIfInBounds_toArray, List.set_cons_zero, List.set_cons_succ]
  refine wpAnyL_take 4 (v := ?_) rfl rfl (by kernel_rfl) (by kernel_rfl) (by kernel_rfl) (by kernel_rfl) (fun _ _ _ h => h) (Or.inl ⟨by rfl, ?_⟩) hS ?_; rotate_left; · intro w hSw; go_simp <;> with_reducible rfl
  try simp only [Act.put, List.setIfInBounds_toArray, List.set_cons_zero, List.set_cons_succ]
  refine wpAnyL_one 5 rfl rfl (by kernel_rfl) ?_; intro K hK; rw [if_pos (by rfl)]
  go_simp
  refine hK.out _ _ (fun _ => hS) ?_; clear hK K
  try simp only [Act.put, List.setIfInBounds_toArray, List.set_cons_zero, List.set_cons_succ]
  refine wpAnyL_one 6 rfl rfl (by kernel_rfl) ?_; intro K hK; rw [if_pos (by rfl)]
  go_simp
  have hX6 := (show Bx W.drew g [.slice p n c] from HX.out).alloc (.cells #[.int .i64 (x1 : Int), .int .i64 (x2 : Int)] 87)
  have hq2 := hX6.one
  refine hK.out _ _ (fun _ => (HSI.out _).2 hq2) ?_; clear hK K
  have hS := (HSI.out _).2 hq2
  clear hq2
  try simp only [Act.put, List.setIfInBounds_toArray, List.set_cons_zero, List.set_cons_succ]
  refine wpAnyL_one 7 rfl rfl (by kernel_rfl) ?_; intro K hK; rw [if_pos (by rfl)]
  refine wp_app_op (w0 := (W.drew.alloc (.cells #[.int .i64 (x1 : Int), .int .i64 (x2 : Int)] 87))) (.tmp 7) (.tmp 10) _ rfl B 87 rfl inf_spot rfl (by decide) rfl ((own_later HO.out (Below.refl _ W).drew).alloc _) rfl (m := 1) (news := [.int .i64 (x1 : Int), .int .i64 (x2 : Int)]) (sl_new W.drew [.int .i64 (x1 : Int), .int .i64 (x2 : Int)] 87) (by simp [Value.oneCell']) (by unfold maxLen; omega) (by omega) (Below.refl _ _) (by show B ≤ _; have : W.drew.heap.size = W.heap.size := rfl; simp; omega) ?_
  intro p7 c7 w7 hown7 hb7 hs7 hg7 hnb7
  clear hS
  have hX7 := hX6.grown hg7 (fun e => HNE.out e)
  have HXx7 := Lib.hid (((show Bx W.drew x cs from HXx.out).alloc (.cells #[.int .i64 (x1 : Int), .int .i64 (x2 : Int)] 87)).grown hg7 (fun e => HNX.out e))
  obtain ⟨hq2, hqf⟩ := hX7.one'
  refine hK.out _ _ (fun _ => (HSI.out _).2 hq2) ?_; clear hK K
  have hS := (HSI.out _).2 hq2
  try simp only [Act.put, List.setIfInBounds_toArray, List.set_cons_zero, List.set_cons_succ]
  refine wpAnyL_one 8 rfl rfl (by kernel_rfl) ?_; intro K hK; rw [if_pos (by rfl)]
  go_simp
  refine hK.out _ _ (fun _ => hS) ?_; clear hK K
  try simp only [Act.put, List.setIfInBounds_toArray, List.set_cons_zero, List.set_cons_succ]
  refine wpAnyL_one 9 rfl rfl (by kernel_rfl) ?_; intro K hK; rw [if_pos (by rfl)]
  go_simp
  refine hK.out _ _ (fun h => absurd rfl h) ?_; clear hK K
  refine wpAnyL_done (by kernel_rfl) ?_ _
  have hbA : Below B W (W.drew.alloc (.cells #[.int .i64 (x1 : Int), .int .i64 (x2 : Int)] 87)) := (Below.refl B W).drew.alloc (by show B ≤ W.heap.size; omega) _
  have HB8 := Lib.hid (show Below B W (w7.setCell ⟨g, 0, none⟩ (.slice p7 (n + 1) c7)) from (hbA.grown hg7 (by show B ≤ _; have : W.drew.heap.size = W.heap.size := rfl; simp; omega) (fun j hj => by have := (HO.out.lt j hj).1; omega)).setCell hBg _)
  have HX8 := Lib.hid (show Bx (w7.setCell ⟨g, 0, none⟩ (.slice p7 (n + 1) c7)) g [.slice p7 (n + 1) c7] from hX7.setc 0 _)
  have hne7 : (Value.slice p7 (n + 1) c7).ownBlock ≠ some g := by
    rcases hnb7 with h | h
    · rw [h]; exact HNE.out
    · rw [h]; intro e; have e2 := Option.some.inj e
      change (W.alloc (.cells #[.int .i64 (x1 : Int), .int .i64 (x2 : Int)] 87)).heap.size = g at e2
      simp at e2
      omega
  have hnx7 : (Value.slice p7 (n + 1) c7).ownBlock ≠ some x := by
    rcases hnb7 with h | h
    · rw [h]; exact HNX.out
    · rw [h]; intro e; have e2 := Option.some.inj e
      change (W.alloc (.cells #[.int .i64 (x1 : Int), .int .i64 (x2 : Int)] 87)).heap.size = x at e2
      simp at e2
      omega
  have HXx8 := Lib.hid (show Bx (w7.setCell ⟨g, 0, none⟩ (.slice p7 (n + 1) c7)) x cs from bx_oth HXx7.out (a := ⟨g, 0, none⟩) hxg _)
  have HO8 := Lib.hid (own_setCell_ne hown7 (a := ⟨g, 0, none⟩) hne7 (.slice p7 (n + 1) c7))
  rw [← HCE.out] at HO8
  clear hS hq2 hqf hX6 hX7 hown7 hb7 hs7 hg7 hnb7 hbA
  go_wp2_with fail
  go_end0
  exact ⟨rfl, ⟨p7, c7, by rw [HLA.out]; exact HX8.out, by rw [HLA.out]; exact HO8.out, by rw [HLA.out]; exact hne7, hBg, HXx8.out, by rw [HLA.out]; exact hnx7, hxg⟩, HB8.out⟩
set_option maxHeartbeats 4000000 in
set_option maxRecDepth 100000 in
theorem spPop_ok (B g x : Nat) (cs : List Value) (W : World) (l : List (Nat × Nat)) (a : Nat × Nat) (h : SpSt B g x cs W (l ++ [a])) :
    Calls Try.prog 110 #[.pointer (some ⟨g, 0, none⟩)] W fun e w' => e = .returned (spV a) ∧ SpSt B g x cs w' l ∧ Below B W w' := by
  obtain ⟨p, c, hX, ho, hne, hBg, hXx, hnx, hxg⟩ := h
  have HXx := Lib.hid hXx
  clear hXx
  have hla : (l ++ [a])[l.length]? = some a := by simp
  have hlen : (l ++ [a]).length = l.length + 1 := by simp
  obtain ⟨k, rfl, hgk, hkW, hlc, hc63, hi0, hi1⟩ := sp_cells ho hne hla
  rw [hlen] at hX ho hlc
  obtain ⟨x1, x2⟩ := a
  dsimp only at hi0 hi1
  have ho2 := own_shrink (size := 2) (xs := mcs l) (us := [.int .i64 (x1 : Int), .int .i64 (x2 : Int)]) (by rw [← mcs_snoc l (x1, x2)]; exact ho) rfl
  have HO := Lib.hid ho2
  have HX := Lib.hid hX
  have HKX := Lib.hid (show ¬ x = k from fun e => hnx (by rw [e]; rfl))
  clear hnx
  have hgW := hX.lt
  obtain ⟨h0, f0⟩ := hX.one'
  obtain ⟨n, hn⟩ : ∃ n, n = l.length := ⟨_, rfl⟩
  have HN := Lib.hid hn
  rw [← hn] at HO HX hlc h0 hi0 hi1
  clear hn
  obtain ⟨b1, B1, z1⟩ := boxed0 W [.int .i64 (x1 : Int), .int .i64 (x2 : Int)] 87
  have HB1 := Lib.hid b1
  have HX1 := Lib.hid (HX.out.next b1)
  have HXx1 := Lib.hid (HXx.out.next b1)
  have HO1 := Lib.hid (own_later HO.out b1)
  have HZ1 := Lib.hid (B1)
  have hne : ¬ g = W.heap.size := by omega
  have hne' : ¬ W.heap.size = g := by omega
  have HG := Lib.hid hgW
  unfold spV
  dsimp only
  have hn0 : (0 : Int) ≤ (n : Int) := by omega
  have hnn : (n : Int) < (n : Int) + 1 := by omega
  have hnc : (n : Int) ≤ (c : Int) := by omega
  clear hX ho ho2 hla hlen B1 b1
  go_enter Try.func110, Try.ntmps110
  go_upto_region 3 with fail
  obtain ⟨q, hq⟩ : ∃ q, q = W.heap.size := ⟨_, rfl⟩
  rw [← hq] at HZ1 hne hne' ⊢
  generalize (W.alloc (.cells #[.int .i64 (x1 : Int), .int .i64 (x2 : Int)] 87)) = w1 at *
  clear hq h0 f0
  obtain ⟨h0, f0⟩ := HX1.out.one'
  have HX2 := Lib.hid (show Bx (w1.setCell ⟨g, 0, none⟩ (.slice (some ⟨k, 0, none⟩) n c)) g [.slice (some ⟨k, 0, none⟩) n c] from HX1.out.setc 0 _)
  have HXx2 := Lib.hid (show Bx (w1.setCell ⟨g, 0, none⟩ (.slice (some ⟨k, 0, none⟩) n c)) x cs from bx_oth HXx1.out (a := ⟨g, 0, none⟩) hxg _)
  have HZ2 := Lib.hid (show Bx (w1.setCell ⟨g, 0, none⟩ (.slice (some ⟨k, 0, none⟩) n c)) q [.int .i64 (x1 : Int), .int .i64 (x2 : Int)] from bx_oth HZ1.out (a := ⟨g, 0, none⟩) hne' _)
  have HO2 := Lib.hid (show (w1.setCell ⟨g, 0, none⟩ (.slice (some ⟨k, 0, none⟩) n c)).ownsRow B 87 2 (.slice (some ⟨k, 0, none⟩) n c) n (mcs l) from own_setCell_ne HO1.out (a := ⟨g, 0, none⟩) (fun e => hgk.2 (Option.some.inj e).symm) _)
  have HB2 := Lib.hid (show Below B W (w1.setCell ⟨g, 0, none⟩ (.slice (some ⟨k, 0, none⟩) n c)) from (HB1.out.mono (Nat.le_trans hBg (Nat.le_of_lt HG.out))).setCell hBg _)
  go_upto_region 4 with fail
  clear h0 f0
  generalize (w1.setCell ⟨g, 0, none⟩ (.slice (some ⟨k, 0, none⟩) n c)) = w2 at *
  obtain ⟨h0, h1, _, _⟩ := HZ2.out.two
  go_wp2_with fail
  go_ret
  exact ⟨rfl, ⟨some ⟨k, 0, none⟩, c, by rw [← HN.out]; exact HX2.out, by rw [← HN.out]; exact HO2.out, fun e => hgk.2 (Option.some.inj e).symm, hBg, HXx2.out, fun e => HKX.out (Option.some.inj e).symm, hxg⟩, HB2.out⟩
/-- the heap that spots make -/
def ltS (a b : Nat × Nat) : Bool := decide (a.2 < b.2)
def leS (a b : Nat × Nat) : Prop := a.2 ≤ b.2
theorem spHeap (B g x : Nat) (cs : List Value) : HeapP (SpSt B g x cs) ltS leS spV B g where
  cell := fun W l h => by obtain ⟨p, c, hX, -⟩ := h; exact ⟨p, _, c, hX.one⟩
  fixed := fun sv hsv => {
    cell := fun W l h => h.2
    shape := hsv
    less := fun W l i j a b h hi hj => by
      obtain ⟨⟨p, c, hX, ho, hne, hBg, hXx, hnx, hxg⟩, hc⟩ := h
      have e := hX.one.symm.trans hc
      cases e
      refine (spLess_ok B g W l i j a b p c ho hne hi hj).mono ?_
      rintro e w' ⟨rfl, m, rfl⟩
      have hb : Below W.heap.size W (W.drewN m) := below_drewN (Below.refl _ _) _
      exact ⟨rfl, ⟨⟨p, c, hX.next hb, own_later ho hb, hne, hBg, hXx.next hb, hnx, hxg⟩, (hX.next hb).one⟩, hb.mono (Nat.le_trans hBg (Nat.le_of_lt hX.lt))⟩
    swap := fun W l i j a b h hi hj => by
      obtain ⟨⟨p, c, hX, ho, hne, hBg, hXx, hnx, hxg⟩, hc⟩ := h
      have e := hX.one.symm.trans hc
      cases e
      refine (spSwap_ok B g x cs hBg W hXx l i j a b p c hX ho hne hnx hi hj).mono ?_
      rintro e w' ⟨rfl, hx, ho', hb, hxx⟩
      have hl : (swp l i j a b).length = l.length := swp_len l i j a b
      exact ⟨rfl, ⟨⟨p, c, by rw [hl]; exact hx, by rw [hl]; exact ho', by rw [hl]; exact hne, hBg, hxx, by rw [hl]; exact hnx, hxg⟩, hx.one⟩, hb⟩
    lt1 := fun a b h => by unfold ltS at h; unfold leS; simp at h; omega
    lt0 := fun a b h => by unfold ltS at h; unfold leS; simp at h; omega
    tr := fun a b c h1 h2 => Nat.le_trans h1 h2
    rf := fun a => Nat.le_refl _ }
  len := fun W l sv h hc => by
    obtain ⟨p, c, hX, -⟩ := h
    have e := hX.one.symm.trans hc
    cases e
    exact spLen_ok W p l.length c
  push := fun W l a h hl => spPush_ok B g x cs W l a h hl
  pop := fun W l a h => spPop_ok B g x cs W l a h
  lt1 := fun a b h => by unfold ltS at h; unfold leS; simp at h; omega
  lt0 := fun a b h => by unfold ltS at h; unfold leS; simp at h; omega
  tr := fun a b c h1 h2 => Nat.le_trans h1 h2
  rf := fun a => Nat.le_refl _
end Go.Proofs.Ytiaflhlfodcbjaa
