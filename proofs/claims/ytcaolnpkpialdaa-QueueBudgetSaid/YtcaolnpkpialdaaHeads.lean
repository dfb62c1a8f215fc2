/- The walks of the methods of merge.heads at mail. -/
import Derived.Test.YtcaolnpkpialdaaHpM
import Derived.Test.YtcaolnpkpialdaaIsSort
import Derived.Test.YtcaolnpkpialdaaHeldL
import Derived.Deep.QuietTactic
import Derived.BigQuiet
namespace Go.Proofs.Ytcaolnpkpialdaa
open Go.RowKit Go.Sort Go.Proofs
/-- what is left of a list, and which one it is -/
structure Hd where
  left : List (Nat × Nat)
  no : Nat
  p : Option Addr
  c : Nat
def Hd.sl (h : Hd) : Value := .slice h.p h.left.length h.c
def Hd.hd (h : Hd) : Nat × Nat := h.left.headD (0, 0)
def hdC (h : Hd) : List Value := [h.sl, .int .i64 (h.no : Int)]
def hdCs (l : List Hd) : List Value := l.flatMap hdC
def hdLt (a b : Hd) : Bool := decide (a.hd.1 < b.hd.1 ∨ (a.hd.1 = b.hd.1 ∧ (a.hd.2 < b.hd.2 ∨ (a.hd.2 = b.hd.2 ∧ a.no < b.no))))
def hdLe (a b : Hd) : Prop := a.hd.1 < b.hd.1 ∨ (a.hd.1 = b.hd.1 ∧ (a.hd.2 < b.hd.2 ∨ (a.hd.2 = b.hd.2 ∧ a.no ≤ b.no)))
theorem hdLt_or (a b : Hd) : hdLt a b = decide (orL [cfM a.hd b.hd, (a.no : Int) - (b.no : Int)] < 0) := by
  unfold hdLt
  rw [decide_eq_decide]
  have h1 := ltM a.hd b.hd
  have h2 := ltM b.hd a.hd
  unfold ltOf at h1 h2
  unfold orL
  by_cases h0 : cfM a.hd b.hd = 0
  · rw [if_pos h0]
    have h3 : ¬ (a.hd.1 < b.hd.1 ∨ (a.hd.1 = b.hd.1 ∧ a.hd.2 < b.hd.2)) := fun h => by
      have : decide (cfM a.hd b.hd < 0) = true := by rw [h1]; simpa using h
      simp [h0] at this
    have h4 : a.hd.1 = b.hd.1 ∧ a.hd.2 = b.hd.2 := by
      unfold cfM orL at h0
      by_cases h5 : Lib.compareInt (a.hd.1 : Int) (b.hd.1 : Int) = 0
      · rw [if_pos h5] at h0
        have e1 := (cmpI_eq _ _).1 h5
        unfold orL at h0
        by_cases h6 : Lib.compareInt (a.hd.2 : Int) (b.hd.2 : Int) = 0
        · have e2 := (cmpI_eq _ _).1 h6
          omega
        · rw [if_neg h6] at h0; exact absurd h0 h6
      · rw [if_neg h5] at h0; exact absurd h0 h5
    unfold orL
    split
    · rename_i h5
      unfold orL
      omega
    · omega
  · rw [if_neg h0]
    have h3 : (cfM a.hd b.hd < 0) ↔ (a.hd.1 < b.hd.1 ∨ (a.hd.1 = b.hd.1 ∧ a.hd.2 < b.hd.2)) := by
      constructor
      · intro h
        have : decide (cfM a.hd b.hd < 0) = true := decide_eq_true h
        rw [h1] at this; simpa using this
      · intro h
        have : decide (cfM a.hd b.hd < 0) = true := by rw [h1]; simpa using h
        simpa using this
    rw [h3]
    have h4 : ¬ (a.hd.1 = b.hd.1 ∧ a.hd.2 = b.hd.2) := fun ⟨e1, e2⟩ => h0 (by
      unfold cfM orL
      rw [if_pos ((cmpI_eq _ _).2 (by omega))]
      unfold orL
      rw [if_pos ((cmpI_eq _ _).2 (by omega))]
      rfl)
    omega
theorem hdLt1 (a b : Hd) (h : hdLt a b = true) : hdLe a b := by
  unfold hdLt at h; unfold hdLe
  have := of_decide_eq_true h
  omega
theorem hdLt0 (a b : Hd) (h : hdLt a b = false) : hdLe b a := by
  unfold hdLt at h; unfold hdLe
  have := of_decide_eq_false h
  omega
theorem hdTr (a b c : Hd) (h1 : hdLe a b) (h2 : hdLe b c) : hdLe a c := by unfold hdLe at *; omega
theorem hdRf (a : Hd) : hdLe a a := by unfold hdLe; omega
/-- blocks that the heap leaves alone: they hold what Wk holds -/
structure KeepSt (Wk : World) (K : Nat → Prop) (g : Nat) (W : World) (q : Option Nat) : Prop where
  size : ∀ b, K b → b < W.heap.size
  box : ∀ b, K b → b ≠ g
  row : ∀ b, K b → q ≠ some b
  same : ∀ b, K b → W.heap[b]? = Wk.heap[b]?
theorem KeepSt.next {Wk W W' : World} {K : Nat → Prop} {g : Nat} {q : Option Nat} (h : KeepSt Wk K g W q) (hb : Below W.heap.size W W') : KeepSt Wk K g W' q :=
  ⟨fun b hk => Nat.lt_of_lt_of_le (h.size b hk) hb.size, h.box, h.row, fun b hk => (hb.block b (h.size b hk)).trans (h.same b hk)⟩
theorem KeepSt.setc {Wk W : World} {K : Nat → Prop} {g : Nat} {q : Option Nat} (h : KeepSt Wk K g W q) {a : Addr} (ha : a.block = g ∨ q = some a.block) (u : Value) : KeepSt Wk K g (W.setCell a u) q :=
  ⟨fun b hk => by simpa [World.setCell] using h.size b hk, h.box, h.row, fun b hk => (Below.heap_setCell _ _ _ _ (fun e => by
    rcases ha with ha | ha
    · exact h.box b hk (e.trans ha)
    · exact h.row b hk (by rw [e]; exact ha))).trans (h.same b hk)⟩
theorem KeepSt.grown {Wk W W' : World} {K : Nat → Prop} {g : Nat} {q q' : Option Nat} (h : KeepSt Wk K g W q) (hg : W.grownBy W' q) (hq : q' = q ∨ q' = some W.heap.size) : KeepSt Wk K g W' q' :=
  ⟨fun b hk => Nat.lt_of_lt_of_le (h.size b hk) hg.size, h.box, fun b hk e => by
    rcases hq with hq | hq
    · exact h.row b hk (by rw [← hq]; exact e)
    · rw [hq] at e; cases e; exact Nat.lt_irrefl _ (h.size _ hk), fun b hk => (hg.block b (h.size b hk) (fun e => h.row b hk e.symm)).trans (h.same b hk)⟩
theorem KeepSt.cutrow {Wk W : World} {K : Nat → Prop} {g : Nat} {q : Option Nat} (h : KeepSt Wk K g W q) : KeepSt Wk K g W none := ⟨h.size, h.box, (fun _ _ e => by cases e), h.same⟩
/-- the heap of heads as it lies in memory: its box at g, all made behind W0 -/
structure HeadSt (W0 Wk : World) (K : Nat → Prop) (g : Nat) (W : World) (l : List Hd) : Prop where
  bel : Below W0.heap.size W0 W
  gB : W0.heap.size ≤ g
  ok : ∀ h ∈ l, 0 < h.left.length ∧ h.no ≤ 100000 ∧ Sl W0 2 h.sl h.left.length (mcs h.left)
  row : ∃ p c, Bx W g [.slice p l.length c, .func (.func 44) #[] #[]] ∧ W.ownsRow (g + 1) 163 2 (.slice p l.length c) l.length (hdCs l) ∧ KeepSt Wk K g W (Value.slice p l.length c).ownBlock
theorem hdCs_len (l : List Hd) : (hdCs l).length = l.length * 2 := by
  induction l with
  | nil => rfl
  | cons a l ih => show (hdC a ++ hdCs l).length = _; rw [List.length_append, ih, List.length_cons]; simp [hdC]; omega
theorem hdCs_at {l : List Hd} {i : Nat} {a : Hd} (h : l[i]? = some a) : (hdCs l)[i * 2]? = some a.sl ∧ (hdCs l)[i * 2 + 1]? = some (.int .i64 (a.no : Int)) := by
  induction l generalizing i with
  | nil => simp at h
  | cons b l ih =>
    show (hdC b ++ hdCs l)[i * 2]? = _ ∧ (hdC b ++ hdCs l)[i * 2 + 1]? = _
    cases i with
    | zero =>
      have e : b = a := by simpa using h
      subst e
      exact ⟨rfl, rfl⟩
    | succ i =>
      have h2 := ih (i := i) (by simpa using h)
      rw [List.getElem?_append_right (by simp [hdC]; omega), List.getElem?_append_right (by simp [hdC]; omega)]
      have e1 : (i + 1) * 2 - (hdC b).length = i * 2 := by simp [hdC]; omega
      have e2 : (i + 1) * 2 + 1 - (hdC b).length = i * 2 + 1 := by simp [hdC]; omega
      rw [e1, e2]; exact h2
theorem hdCs_put (l : List Hd) (i : Nat) (x : Hd) : ((hdCs l).set (i * 2) x.sl).set (i * 2 + 1) (.int .i64 (x.no : Int)) = hdCs (l.set i x) := by
  induction l generalizing i with
  | nil => rfl
  | cons b l ih =>
    show ((b.sl :: .int .i64 (b.no : Int) :: hdCs l).set (i * 2) x.sl).set (i * 2 + 1) _ = _
    cases i with
    | zero => rfl
    | succ i =>
      rw [show (i + 1) * 2 = i * 2 + 1 + 1 by omega, List.set_cons_succ, List.set_cons_succ, List.set_cons_succ, List.set_cons_succ, ih i]
      rfl
theorem hdCs_append (l r : List Hd) : hdCs (l ++ r) = hdCs l ++ hdCs r := by simp [hdCs]
/-- a heap's element, read -/
theorem hd_cells {W : World} {g : Nat} {l : List Hd} {p : Option Addr} {c : Nat} (ho : W.ownsRow (g + 1) 163 2 (.slice p l.length c) l.length (hdCs l)) {i : Nat} {a : Hd} (h : l[i]? = some a) :
    ∃ k, p = some ⟨k, 0, none⟩ ∧ g < k ∧ k < W.heap.size ∧ l.length ≤ c ∧ c ≤ 9223372036854775807 ∧ W.cell? ⟨k, i * 2, none⟩ = some a.sl ∧ W.cell? ⟨k, i * 2 + 1, none⟩ = some (.int .i64 (a.no : Int)) := by
  have hi := (List.getElem?_eq_some_iff.1 h).1
  obtain ⟨k, rfl, -, h1, h2⟩ := own_ptr ho (by omega)
  obtain ⟨h3, h4⟩ := hdCs_at h
  have hl := ho.lt k rfl
  refine ⟨k, rfl, by omega, hl.2, h1, h2, ?_, ?_⟩
  · rw [ho.cellAt (i * 2) (by omega)]; exact h3
  · rw [ho.cellAt (i * 2 + 1) (by omega)]; exact h4
/-- the first piece of a head -/
theorem HeadSt.first {W0 Wk W : World} {K : Nat → Prop} {g : Nat} {l : List Hd} (H : HeadSt W0 Wk K g W l) {a : Hd} (h : a ∈ l) :
    ∃ b off n, a.sl = .slice (some ⟨b, off, none⟩) n a.c ∧ 0 < n ∧ n = a.left.length ∧ b < W0.heap.size ∧ W0.cell? ⟨b, off, none⟩ = some (.int .i64 (a.hd.1 : Int)) ∧ W0.cell? ⟨b, off + 1, none⟩ = some (.int .i64 (a.hd.2 : Int)) := by
  obtain ⟨h1, h2, h3⟩ := H.ok a h
  unfold Hd.sl at h3 ⊢
  obtain ⟨b, off, e, c0, c1⟩ := h3.mail h1
  rw [Nat.zero_mul, Nat.add_zero] at c0 c1
  have eh : a.left[0] = a.hd := by
    unfold Hd.hd
    rw [List.headD_eq_head?_getD, List.head?_eq_getElem?, List.getElem?_eq_getElem h1]; rfl
  rw [eh] at c0 c1
  exact ⟨b, off, a.left.length, by rw [e], h1, rfl, World.block_lt_of_cell? W0 _ c0, c0, c1⟩
set_option maxHeartbeats 1000000 in
set_option maxRecDepth 100000 in
theorem hdLen_ok {W0 Wk : World} {K : Nat → Prop} {g : Nat} (W : World) (l : List Hd) (H : HeadSt W0 Wk K g W l) :
    Calls Try.prog 73 #[.pointer (some ⟨g, 0, none⟩)] W fun e w' => e = .returned (.int .i64 (l.length : Int)) ∧ HeadSt W0 Wk K g w' l ∧ Below W0.heap.size W w' := by
  have HH := Lib.hid H
  obtain ⟨p, c, hX, ho, hkp⟩ := H.row
  have HKP := Lib.hid hkp
  clear hkp
  obtain ⟨hx0, hx1, _, _⟩ := hX.two
  have hl2 := ho.1
  clear H ho hX
  go_enter Try.func73, Try.ntmps73
  go_wp2_with fail
  go_ret
  exact ⟨rfl, HH.out, Below.refl _ _⟩
set_option maxHeartbeats 8000000 in
set_option maxRecDepth 100000 in
theorem hdLess_ok {W0 Wk : World} {K : Nat → Prop} {g : Nat} (W : World) (l : List Hd) (i j : Nat) (a b : Hd) (H : HeadSt W0 Wk K g W l) (hi : l[i]? = some a) (hj : l[j]? = some b) :
    Calls Try.prog 144 #[.pointer (some ⟨g, 0, none⟩), .int .i64 (i : Int), .int .i64 (j : Int)] W fun e w' => e = .returned (.bool (hdLt a b)) ∧ HeadSt W0 Wk K g w' l ∧ Below W0.heap.size W w' := by
  rw [hdLt_or]
  have hil := (List.getElem?_eq_some_iff.1 hi).1
  have hjl := (List.getElem?_eq_some_iff.1 hj).1
  have hma := List.mem_of_getElem? hi
  have hmb := List.mem_of_getElem? hj
  obtain ⟨p, c, hX, ho, hkp⟩ := H.row
  have HKP := Lib.hid hkp
  clear hkp
  obtain ⟨k, rfl, hgk, hkW, hlc, hc63, hi0, hi1⟩ := hd_cells ho hi
  obtain ⟨k', hk', -, -, -, -, hj0, hj1⟩ := hd_cells ho hj
  cases hk'
  obtain ⟨ba, oa, na, ea, hna0, hna, hbaW, ha0, ha1⟩ := H.first hma
  obtain ⟨bb, ob, nb, eb, hnb0, hnb, hbbW, hb0, hb1⟩ := H.first hmb
  have hano := (H.ok a hma).2.1
  have hbno := (H.ok b hmb).2.1
  rw [ea] at hi0
  rw [eb] at hj0
  have hxc := hX.two
  have HX := Lib.hid hX
  have HO := Lib.hid ho
  have HH := Lib.hid H
  have hWsz := H.bel.size
  have HC1 := Lib.hid (fun (W1 : World) (hW : Below W.heap.size W W1) => (show W1.cell? ⟨g, 0, none⟩ = some (.slice (some ⟨k, 0, none⟩) l.length c) ∧ W1.cell? ⟨g, 1, none⟩ = some (.func (.func 44) #[] #[]) ∧ W1.cell? ⟨k, i * 2, none⟩ = some (.slice (some ⟨ba, oa, none⟩) na a.c) ∧ W1.cell? ⟨k, i * 2 + 1, none⟩ = some (.int .i64 (a.no : Int)) ∧ W1.cell? ⟨k, j * 2, none⟩ = some (.slice (some ⟨bb, ob, none⟩) nb b.c) ∧ W1.cell? ⟨k, j * 2 + 1, none⟩ = some (.int .i64 (b.no : Int)) ∧ W1.cell? ⟨ba, oa, none⟩ = some (.int .i64 (a.hd.1 : Int)) ∧ W1.cell? ⟨ba, oa + 1, none⟩ = some (.int .i64 (a.hd.2 : Int)) ∧ W1.cell? ⟨bb, ob, none⟩ = some (.int .i64 (b.hd.1 : Int)) ∧ W1.cell? ⟨bb, ob + 1, none⟩ = some (.int .i64 (b.hd.2 : Int)) from
    ⟨(hX.next hW).two.1, (hX.next hW).two.2.1, (hW.cell (p := ⟨k, i * 2, none⟩) hkW).trans hi0, (hW.cell (p := ⟨k, i * 2 + 1, none⟩) hkW).trans hi1, (hW.cell (p := ⟨k, j * 2, none⟩) hkW).trans hj0, (hW.cell (p := ⟨k, j * 2 + 1, none⟩) hkW).trans hj1,
      (hW.cell (p := ⟨ba, oa, none⟩) (Nat.lt_of_lt_of_le hbaW hWsz)).trans ((H.bel.cell (p := ⟨ba, oa, none⟩) hbaW).trans ha0), (hW.cell (p := ⟨ba, oa + 1, none⟩) (Nat.lt_of_lt_of_le hbaW hWsz)).trans ((H.bel.cell (p := ⟨ba, oa + 1, none⟩) hbaW).trans ha1),
      (hW.cell (p := ⟨bb, ob, none⟩) (Nat.lt_of_lt_of_le hbbW hWsz)).trans ((H.bel.cell (p := ⟨bb, ob, none⟩) hbbW).trans hb0), (hW.cell (p := ⟨bb, ob + 1, none⟩) (Nat.lt_of_lt_of_le hbbW hWsz)).trans ((H.bel.cell (p := ⟨bb, ob + 1, none⟩) hbbW).trans hb1)⟩))
  have hfin : ∀ w', Below W.heap.size W w' → HeadSt W0 Wk K g w' l ∧ Below W0.heap.size W w' := fun w' hb => ⟨⟨H.bel.trans (hb.mono hWsz), H.gB, H.ok, _, c, hX.next hb, own_later ho hb, HKP.out.next hb⟩, hb.mono hWsz⟩
  have HFIN := Lib.hid hfin
  obtain ⟨hu0, hu1, hu2, hu3, hu4, hu5, hu6, hu7, hu8, hu9⟩ := HC1.out W (Below.refl _ _)
  have HC := Lib.hid (fun (w : World) => ordM_b a.hd.1 a.hd.2 b.hd.1 b.hd.2 w)
  have heta : cfM a.hd b.hd = cfM (a.hd.1, a.hd.2) (b.hd.1, b.hd.2) := rfl
  rw [heta]
  generalize cfM (a.hd.1, a.hd.2) (b.hd.1, b.hd.2) = cm at *
  generalize a.hd.1 = x1 at *
  generalize a.hd.2 = x2 at *
  generalize b.hd.1 = y1 at *
  generalize b.hd.2 = y2 at *
  generalize a.no = an at *
  generalize b.no = bn at *
  have HOR := Lib.hid (fun (gg : Nat) (w : World) (h0 : w.cell? ⟨gg, 0, none⟩ = some (.int .i64 cm)) (h1 : w.cell? ⟨gg, 1, none⟩ = some (.int .i64 ((an : Int) - (bn : Int)))) => or_any gg 2 [cm, (an : Int) - (bn : Int)] w rfl (by omega) (by
    intro i a h
    match i, h with
    | 0, h => cases h; exact h0
    | 1, h => cases h; exact h1))
  generalize orL [cm, (an : Int) - (bn : Int)] = r at *
  have hw1 : IntKind.i64.wrap ((an : Int) - (bn : Int)) = (an : Int) - (bn : Int) := IntWalk.i64_in _ (by omega)
  generalize l.length = n at *
  clear H hX ho hi0 hi1 hj0 hj1 ha0 ha1 hb0 hb1 hi hj hma hmb ea eb hxc hfin heta hna hnb HX HO HH
  have hk0 : (0 : Int) ≤ (i : Int) := by omega
  have hkn : (i : Int) < (n : Int) := by omega
  have hk1 : (0 : Int) ≤ (j : Int) := by omega
  have hkm : (j : Int) < (n : Int) := by omega
  have hna1 : (0 : Int) < (na : Int) := by omega
  have hnb1 : (0 : Int) < (nb : Int) := by omega
  go_enter Try.func144, Try.ntmps144
  go_wp2_with fail
  go_region_held3 (fun W1 => W1.cell? ⟨g, 0, none⟩ = some (.slice (some ⟨k, 0, none⟩) n c) ∧ W1.cell? ⟨g, 1, none⟩ = some (.func (.func 44) #[] #[]) ∧ W1.cell? ⟨k, i * 2, none⟩ = some (.slice (some ⟨ba, oa, none⟩) na a.c) ∧ W1.cell? ⟨k, i * 2 + 1, none⟩ = some (.int .i64 (an : Int)) ∧ W1.cell? ⟨k, j * 2, none⟩ = some (.slice (some ⟨bb, ob, none⟩) nb b.c) ∧ W1.cell? ⟨k, j * 2 + 1, none⟩ = some (.int .i64 (bn : Int)) ∧ W1.cell? ⟨ba, oa, none⟩ = some (.int .i64 (x1 : Int)) ∧ W1.cell? ⟨ba, oa + 1, none⟩ = some (.int .i64 (x2 : Int)) ∧ W1.cell? ⟨bb, ob, none⟩ = some (.int .i64 (y1 : Int)) ∧ W1.cell? ⟨bb, ob + 1, none⟩ = some (.int .i64 (y2 : Int)))
    (first | (exact ⟨hu0, hu1, hu2, hu3, hu4, hu5, hu6, hu7, hu8, hu9⟩) | go_keep)
    (first
      | (go_at_call 44; refine (HC.out (W.drew)).mono ?_; rintro e w2 ⟨rfl, hb2⟩; have hc2 : Below W.heap.size W w2 := (Below.refl _ W).drew.trans hb2; obtain ⟨hu0, hu1, hu2, hu3, hu4, hu5, hu6, hu7, hu8, hu9⟩ := HC1.out w2 hc2)
      | (go_at_call 71; refine (HOR.out w2.heap.size (w2.alloc (.cells #[.int .i64 cm, .int .i64 ((an : Int) - (bn : Int))] 3)) (bx_new w2 [.int .i64 cm, .int .i64 ((an : Int) - (bn : Int))] 3).two.1 (bx_new w2 [.int .i64 cm, .int .i64 ((an : Int) - (bn : Int))] 3).two.2.1).mono ?_; rintro e w3 ⟨rfl, rfl⟩; obtain ⟨hu0, hu1, hu2, hu3, hu4, hu5, hu6, hu7, hu8, hu9⟩ := HC1.out _ (hc2.trans ((alloc_below w2 (.cells #[.int .i64 cm, .int .i64 ((an : Int) - (bn : Int))] 3)).mono hc2.size)))
      | fail)
  all_goals
    go_wp2_with fail
    go_ret
    exact ⟨rfl, HFIN.out _ (hc2.trans ((alloc_below w2 _).mono hc2.size))⟩
theorem bx_pair (W : World) (a b : List Value) (t : TypeId) : Bx ((W.alloc (.cells a.toArray t)).alloc (.cells b.toArray t)).drew W.heap.size a ∧ Bx ((W.alloc (.cells a.toArray t)).alloc (.cells b.toArray t)).drew (W.heap.size + 1) b ∧ Below W.heap.size W ((W.alloc (.cells a.toArray t)).alloc (.cells b.toArray t)).drew := by
  have e : (W.alloc (.cells a.toArray t)).heap.size = W.heap.size + 1 := by simp
  have h2 := bx_new (W.alloc (.cells a.toArray t)) b t
  rw [e] at h2
  exact ⟨(bx_new W a t).alloc _, h2, ((alloc_below W _).trans ((alloc_below (W.alloc (.cells a.toArray t)) _).mono (by simp))).drew⟩
set_option maxHeartbeats 8000000 in
set_option maxRecDepth 100000 in
theorem hdSwap_ok {W0 Wk : World} {K : Nat → Prop} {g : Nat} (W : World) (l : List Hd) (i j : Nat) (a b : Hd) (H : HeadSt W0 Wk K g W l) (hi : l[i]? = some a) (hj : l[j]? = some b) :
    Calls Try.prog 147 #[.pointer (some ⟨g, 0, none⟩), .int .i64 (i : Int), .int .i64 (j : Int)] W fun e w' => e = .returned (.tuple #[]) ∧ HeadSt W0 Wk K g w' (swp l i j a b) ∧ Below W0.heap.size W w' := by
  have hil := (List.getElem?_eq_some_iff.1 hi).1
  have hjl := (List.getElem?_eq_some_iff.1 hj).1
  obtain ⟨p, c, hX, ho, hkp⟩ := H.row
  have HKP := Lib.hid hkp
  clear hkp
  obtain ⟨k, rfl, hgk, hkW, hlc, hc63, hi0, hi1⟩ := hd_cells ho hi
  obtain ⟨k', hk', -, -, -, -, hj0, hj1⟩ := hd_cells ho hj
  cases hk'
  have HX := Lib.hid hX
  have HO := Lib.hid ho
  have HH := Lib.hid H
  have hWsz := H.bel.size
  have hgB := H.gB
  have hgW := hX.lt
  have HC1 := Lib.hid (fun (W1 : World) (hW : Below W.heap.size W W1) => (show W1.cell? ⟨g, 0, none⟩ = some (.slice (some ⟨k, 0, none⟩) l.length c) ∧ W1.cell? ⟨k, i * 2, none⟩ = some a.sl ∧ W1.cell? ⟨k, i * 2 + 1, none⟩ = some (.int .i64 (a.no : Int)) ∧ W1.cell? ⟨k, j * 2, none⟩ = some b.sl ∧ W1.cell? ⟨k, j * 2 + 1, none⟩ = some (.int .i64 (b.no : Int)) from
    ⟨(hX.next hW).two.1, (hW.cell (p := ⟨k, i * 2, none⟩) hkW).trans hi0, (hW.cell (p := ⟨k, i * 2 + 1, none⟩) hkW).trans hi1, (hW.cell (p := ⟨k, j * 2, none⟩) hkW).trans hj0, (hW.cell (p := ⟨k, j * 2 + 1, none⟩) hkW).trans hj1⟩))
  obtain ⟨hu0, hu2, hu3, hu4, hu5⟩ := HC1.out W (Below.refl _ _)
  have HI := Lib.hid hi
  have HJ := Lib.hid hj
  have HLL := Lib.hid (show l.length = l.length from rfl)
  obtain ⟨sa, hsa⟩ : ∃ sa, sa = a.sl := ⟨_, rfl⟩
  obtain ⟨sb, hsb⟩ : ∃ sb, sb = b.sl := ⟨_, rfl⟩
  have HSA := Lib.hid hsa
  have HSB := Lib.hid hsb
  rw [← hsa] at HC1 hu2
  rw [← hsb] at HC1 hu4
  obtain ⟨n, hn⟩ : ∃ n, n = l.length := ⟨_, rfl⟩
  have HN := Lib.hid hn
  rw [← hn] at HC1 hu0 hil hjl hlc
  obtain ⟨qa, da, na, hqa⟩ : ∃ q d m, sa = .slice q m d := ⟨a.p, a.c, a.left.length, hsa⟩
  obtain ⟨qb, db, nb, hqb⟩ : ∃ q d m, sb = .slice q m d := ⟨b.p, b.c, b.left.length, hsb⟩
  subst hqa
  subst hqb
  have HANO := Lib.hid (show a.no = a.no from rfl)
  clear H hX ho hi0 hi1 hj0 hj1 hi hj hsa hsb hn
  generalize han : a.no = an at *
  generalize hbn : b.no = bn at *
  have HAN := Lib.hid han
  have HBN := Lib.hid hbn
  clear han hbn
  have hk0 : (0 : Int) ≤ (i : Int) := by omega
  have hkn : (i : Int) < (n : Int) := by omega
  have hk1 : (0 : Int) ≤ (j : Int) := by omega
  have hkm : (j : Int) < (n : Int) := by omega
  have hn1 : ¬ g = W.heap.size := by omega
  have hn2 : ¬ W.heap.size = g := by omega
  have hn3 : ¬ k = W.heap.size := by omega
  have hn4 : ¬ W.heap.size = k := by omega
  have hn5 : ¬ g = W.heap.size + 1 := by omega
  have hn6 : ¬ W.heap.size + 1 = g := by omega
  have hn7 : ¬ k = W.heap.size + 1 := by omega
  have hn8 : ¬ W.heap.size + 1 = k := by omega
  go_enter Try.func147, Try.ntmps147
  go_upto_region 0 with fail
  go_cut [6, 7] (fun s6 s7 wx => ∃ (g6 g7 : Nat), s6 = .pointer (some ⟨g6, 0, none⟩) ∧ s7 = .pointer (some ⟨g7, 0, none⟩) ∧ W.heap.size ≤ g6 ∧ W.heap.size ≤ g7 ∧ Bx wx g6 [.slice qa na da, .int .i64 (an : Int)] ∧ Bx wx g7 [.slice qb nb db, .int .i64 (bn : Int)] ∧ Below W.heap.size W wx)
  case first =>
    go_region_held3 (fun W1 => W1.cell? ⟨g, 0, none⟩ = some (.slice (some ⟨k, 0, none⟩) n c) ∧ W1.cell? ⟨k, i * 2, none⟩ = some (.slice qa na da) ∧ W1.cell? ⟨k, i * 2 + 1, none⟩ = some (.int .i64 (an : Int)) ∧ W1.cell? ⟨k, j * 2, none⟩ = some (.slice qb nb db) ∧ W1.cell? ⟨k, j * 2 + 1, none⟩ = some (.int .i64 (bn : Int)))
      (first | (exact ⟨hu0, hu2, hu3, hu4, hu5⟩) | go_keep) (fail)
    all_goals go_wp2_with fail
    all_goals go_meet
    case rel =>
      obtain ⟨q1, q2, q3⟩ := bx_pair W [.slice qa na da, .int .i64 (an : Int)] [.slice qb nb db, .int .i64 (bn : Int)] 163
      exact ⟨_, _, rfl, rfl, Nat.le_refl _, Nat.le_succ _, q1, q2, q3⟩
    case rel =>
      obtain ⟨q1, q2, q3⟩ := bx_pair W [.slice qb nb db, .int .i64 (bn : Int)] [.slice qa na da, .int .i64 (an : Int)] 163
      exact ⟨_, _, rfl, rfl, Nat.le_succ _, Nat.le_refl _, q2, q1, q3⟩
  case rest =>
  obtain ⟨g6, g7, rfl, rfl, hg6, hg7, HB6, HB7, hb4⟩ := hcut
  obtain ⟨w4, rfl⟩ : ∃ w4 : World, w4 = wc := ⟨_, rfl⟩
  have HO4 := Lib.hid (own_later HO.out hb4)
  have HX4 := Lib.hid (HX.out.next hb4)
  obtain ⟨hu0, hu2, hu3, hu4, hu5⟩ := HC1.out w4 hb4
  have f0 := HO4.out.frozenAt (i * 2)
  have f1 := HO4.out.frozenAt (i * 2 + 1)
  have f2 := HO4.out.frozenAt (j * 2)
  have f3 := HO4.out.frozenAt (j * 2 + 1)
  obtain ⟨h60, h61, _, _⟩ := HB6.two
  obtain ⟨h70, h71, _, _⟩ := HB7.two
  have hn11 : ¬ k = g := by omega
  have hn12 : ¬ g = k := by omega
  have hn13 : ¬ k = g6 := by omega
  have hn14 : ¬ g6 = k := by omega
  have hn15 : ¬ k = g7 := by omega
  have hn16 : ¬ g7 = k := by omega
  clear hn1 hn2 hn3 hn4 hn5 hn6 hn7 hn8 HC1
  go_upto_region 1 with fail
  go_region_held3 (fun W1 => W1.cell? ⟨g, 0, none⟩ = some (.slice (some ⟨k, 0, none⟩) n c) ∧ W1.cell? ⟨g7, 0, none⟩ = some (.slice qb nb db) ∧ W1.cell? ⟨g7, 1, none⟩ = some (.int .i64 (bn : Int)))
    (first | (exact ⟨hu0, h70, h71⟩) | go_keep) (fail)
  have HO5 := Lib.hid (show ((w4.setCell ⟨k, i * 2, none⟩ (.slice qb nb db)).setCell ⟨k, i * 2 + 1, none⟩ (.int .i64 (bn : Int))).drew.ownsRow (g + 1) 163 2 (.slice (some ⟨k, 0, none⟩) l.length c) l.length (hdCs (l.set i b)) from by
    have h := ((HO4.out.stored (i * 2) (.slice qb nb db)).1.stored (i * 2 + 1) (.int .i64 (bn : Int))).1
    rw [HSB.out, ← HBN.out, hdCs_put l i b] at h
    rw [HSB.out, ← HBN.out]
    exact h)
  have HX5 := Lib.hid (show Bx ((w4.setCell ⟨k, i * 2, none⟩ (.slice qb nb db)).setCell ⟨k, i * 2 + 1, none⟩ (.int .i64 (bn : Int))).drew g [.slice (some ⟨k, 0, none⟩) l.length c, .func (.func 44) #[] #[]] from bx_oth (bx_oth HX4.out (a := ⟨k, i * 2, none⟩) hn12 _) (a := ⟨k, i * 2 + 1, none⟩) hn12 _)
  have HB65 := Lib.hid (show Bx ((w4.setCell ⟨k, i * 2, none⟩ (.slice qb nb db)).setCell ⟨k, i * 2 + 1, none⟩ (.int .i64 (bn : Int))).drew g6 [.slice qa na da, .int .i64 (an : Int)] from bx_oth (bx_oth HB6 (a := ⟨k, i * 2, none⟩) hn14 _) (a := ⟨k, i * 2 + 1, none⟩) hn14 _)
  have HK5 := Lib.hid (show KeepSt Wk K g ((w4.setCell ⟨k, i * 2, none⟩ (.slice qb nb db)).setCell ⟨k, i * 2 + 1, none⟩ (.int .i64 (bn : Int))).drew (some k) from (((HKP.out.next hb4).setc (a := ⟨k, i * 2, none⟩) (.inr rfl) _).setc (a := ⟨k, i * 2 + 1, none⟩) (.inr rfl) _).next (Below.refl _ _).drew)
  have hb5 := Lib.hid (show Below W0.heap.size W ((w4.setCell ⟨k, i * 2, none⟩ (.slice qb nb db)).setCell ⟨k, i * 2 + 1, none⟩ (.int .i64 (bn : Int))).drew from (((hb4.mono hWsz).setCell (by show W0.heap.size ≤ k; omega) _).setCell (by show W0.heap.size ≤ k; omega) _).drew)
  clear hu0 hu2 hu3 hu4 hu5 f0 f1 f2 f3 h60 h61 h70 h71 HB6 HB7 hb4 HO4 HX4
  generalize ((w4.setCell ⟨k, i * 2, none⟩ (.slice qb nb db)).setCell ⟨k, i * 2 + 1, none⟩ (.int .i64 (bn : Int))).drew = w5 at *
  have hu0 := HX5.out.two.1
  rw [← HN.out] at hu0
  obtain ⟨h60, h61, _, _⟩ := HB65.out.two
  have hlL : (hdCs (l.set i b)).length = n * 2 := by rw [hdCs_len, List.length_set, ← HN.out]
  have d0 := HO5.out.cellAt (j * 2) (by have := HN.out; omega)
  have d1 := HO5.out.cellAt (j * 2 + 1) (by have := HN.out; omega)
  have e0 : ∃ u, w5.cell? ⟨k, j * 2, none⟩ = some u := ⟨_, by rw [d0, List.getElem?_eq_getElem (by omega)]⟩
  have e1 : ∃ u, w5.cell? ⟨k, j * 2 + 1, none⟩ = some u := ⟨_, by rw [d1, List.getElem?_eq_getElem (by omega)]⟩
  clear d0 d1 hlL
  obtain ⟨u0, d0⟩ := e0
  obtain ⟨u1, d1⟩ := e1
  have f2 := HO5.out.frozenAt (j * 2)
  have f3 := HO5.out.frozenAt (j * 2 + 1)
  go_upto_region 2 with fail
  go_region_held3 (fun W1 => W1.cell? ⟨g, 0, none⟩ = some (.slice (some ⟨k, 0, none⟩) n c) ∧ W1.cell? ⟨g6, 0, none⟩ = some (.slice qa na da) ∧ W1.cell? ⟨g6, 1, none⟩ = some (.int .i64 (an : Int)))
    (first | (exact ⟨hu0, h60, h61⟩) | go_keep) (fail)
  go_wp2_with fail
  go_end0
  have HO6 := (show ((w5.setCell ⟨k, j * 2, none⟩ (.slice qa na da)).setCell ⟨k, j * 2 + 1, none⟩ (.int .i64 (an : Int))).drew.ownsRow (g + 1) 163 2 (.slice (some ⟨k, 0, none⟩) l.length c) l.length (hdCs (swp l i j a b)) from by
    have h := ((HO5.out.stored (j * 2) (.slice qa na da)).1.stored (j * 2 + 1) (.int .i64 (an : Int))).1
    rw [HSA.out, ← HAN.out, hdCs_put (l.set i b) j a] at h
    rw [HSA.out, ← HAN.out]
    exact h)
  have HX6 := (show Bx ((w5.setCell ⟨k, j * 2, none⟩ (.slice qa na da)).setCell ⟨k, j * 2 + 1, none⟩ (.int .i64 (an : Int))).drew g [.slice (some ⟨k, 0, none⟩) l.length c, .func (.func 44) #[] #[]] from bx_oth (bx_oth HX5.out (a := ⟨k, j * 2, none⟩) hn12 _) (a := ⟨k, j * 2 + 1, none⟩) hn12 _)
  have hb6 := (show Below W0.heap.size W ((w5.setCell ⟨k, j * 2, none⟩ (.slice qa na da)).setCell ⟨k, j * 2 + 1, none⟩ (.int .i64 (an : Int))).drew from ((hb5.out.setCell (by show W0.heap.size ≤ k; omega) _).setCell (by show W0.heap.size ≤ k; omega) _).drew)
  have hsl : (swp l i j a b).length = l.length := swp_len _ _ _ _ _
  have HK6 := (show KeepSt Wk K g ((w5.setCell ⟨k, j * 2, none⟩ (.slice qa na da)).setCell ⟨k, j * 2 + 1, none⟩ (.int .i64 (an : Int))).drew (some k) from ((HK5.out.setc (a := ⟨k, j * 2, none⟩) (.inr rfl) _).setc (a := ⟨k, j * 2 + 1, none⟩) (.inr rfl) _).next (Below.refl _ _).drew)
  refine ⟨rfl, ⟨HH.out.bel.trans hb6, hgB, fun h hh => HH.out.ok h ((swp_perm HI.out HJ.out).mem_iff.1 hh), some ⟨k, 0, none⟩, c, ?_, ?_, ?_⟩, hb6⟩
  · rw [hsl]; exact HX6
  · rw [hsl]; exact HO6
  · rw [hsl]; exact HK6
end Go.Proofs.Ytcaolnpkpialdaa
