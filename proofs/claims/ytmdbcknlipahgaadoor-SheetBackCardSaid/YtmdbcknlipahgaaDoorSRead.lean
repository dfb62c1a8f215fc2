/- The walk of sheet.Read. -/
import Derived.Test.YtmdbcknlipahgaaDoorRdS
import Derived.Test.YtmdbcknlipahgaaDoorNums
import Derived.Test.YtmdbcknlipahgaaDoorRoundReg
import Derived.Test.YtmdbcknlipahgaaDoorOwn3
namespace Go.Proofs.YtmdbcknlipahgaaDoor
open Go Go.RowKit Go.Shelf Go.Proofs
attribute [local go_sem] Oper.semAt_some
theorem numsL_hd (l : List UInt8) : -9223372036854775808 ≤ (numsL l).headD 0 ∧ (numsL l).headD 0 ≤ 9223372036854775807 := by
  unfold numsL
  cases Lib.split (Lib.trimSuffix l [10]) [32] with
  | nil => exact ⟨by decide, by decide⟩
  | cons w ws => exact numW_bd w
/-- what Read answers -/
def bigS (s : List UInt8) : Prop := chkF (readL s).1 (readL s).2 = 0 ∧ (shF (readL s).1 (readL s).2).data.toList = s
def ReadOk (s : ByteArray) (w : World) (e : Ending) (w' : World) : Prop :=
  (s.size > 20000 ∧ e = .returned (.tuple #[.agg #[.int .i64 0, .slice none 0 0], .int .i64 1])) ∨
  (s.size ≤ 20000 ∧ ¬ bigS s.data.toList ∧ e = .returned (.tuple #[.agg #[.int .i64 0, .slice none 0 0], .int .i64 3])) ∨
  (s.size ≤ 20000 ∧ bigS s.data.toList ∧ ∃ p n c, e = .returned (.tuple #[.agg #[.int .i64 (readL s.data.toList).1, .slice p n c], .int .i64 0]) ∧ n = (readL s.data.toList).2.length ∧ w'.ownsRow w.heap.size 84 3 (.slice p n c) n (ges (readL s.data.toList).2))
/-- numbers, as its caller reads them -/
theorem numbers_at (x : ByteArray) (hx : x.size ≤ 20001) (W : World) (ht : Tabs W) :
    Calls Tryd.prog 35 #[.string x] W fun e w' => ∃ b n d, e = .returned (.slice (some ⟨b, 0, none⟩) n d) ∧ n = (numsL x.data.toList).length ∧ 1 ≤ n ∧ Hid (∀ j (h : j < (numsL x.data.toList).length), w'.cell? ⟨b, j, none⟩ = some (.int .i64 (numsL x.data.toList)[j])) ∧ (∃ cur, w'.heap[b]? = some (.cells cur 3 (0, 0))) ∧ Below W.heap.size W w' :=
  (numbers_ok x hx W ht).mono (by
    rintro e w' ⟨q, d, rfl, ho, hn, hb⟩
    rcases ho.2 with ⟨_, h0⟩ | ⟨b, cap, cur, hv, _, hc, hle, _, hsz, htk⟩
    · omega
    · cases hv
      refine ⟨b, _, _, rfl, rfl, hn, Lib.hid (fun j h => ?_), ⟨_, hc⟩, hb⟩
      have h1 : cur[j]? = some (.int .i64 (numsL x.data.toList)[j]) := by
        have h2 : (its (numsL x.data.toList))[j]? = some (.int .i64 (numsL x.data.toList)[j]) := by unfold its; rw [List.getElem?_map, List.getElem?_eq_getElem h]; rfl
        rw [← htk, List.getElem?_take, if_pos (by omega)] at h2
        simpa using h2
      rw [cell_of_row w' b j _ _ _ hc]; exact h1)
theorem hd_cell {w : World} {b : Nat} {l : List Int} {h : 0 < l.length} (hc : w.cell? ⟨b, 0, none⟩ = some (.int .i64 l[0])) : w.cell? ⟨b, 0, none⟩ = some (.int .i64 (l.headD 0)) := by
  cases l with
  | nil => cases h
  | cons => exact hc
theorem frz_of {w : World} {b i : Nat} {cs : Array Value} {t : TypeId} (h : w.heap[b]? = some (.cells cs t (0, 0))) : w.frozen? ⟨b, i, none⟩ = false := by simp [World.frozen?, h]
theorem fls_of {w : World} {b : Nat} {v : Bool} {t : TypeId} (h : w.heap[b]? = some (.cells #[.bool v] t (0, 0))) (hv : v = false) : w.cell? ⟨b, 0, none⟩ = some (.bool false) := by
  subst hv; rw [cell_of_row w b 0 _ _ _ h]; rfl
theorem three_of {l : List Int} (h : l.length = 3) : ∃ a b c, l = [a, b, c] := by
  match l, h with
  | [a, b, c], _ => exact ⟨a, b, c, rfl⟩
theorem edgeOf_none {l : List UInt8} (h : ¬ (numsL l).length = 3) : edgeOf l = [] := by
  unfold edgeOf
  split
  · rename_i h2; rw [h2] at h; exact absurd rfl h
  · rfl
theorem numbers_three {x : ByteArray} {W : World} {a b c : Int} (h : Calls Tryd.prog 35 #[.string x] W fun e w' => ∃ b n d, e = .returned (.slice (some ⟨b, 0, none⟩) n d) ∧ n = (numsL x.data.toList).length ∧ 1 ≤ n ∧ Hid (∀ j (h : j < (numsL x.data.toList).length), w'.cell? ⟨b, j, none⟩ = some (.int .i64 (numsL x.data.toList)[j])) ∧ (∃ cur, w'.heap[b]? = some (.cells cur 3 (0, 0))) ∧ Below W.heap.size W w') (hn : numsL x.data.toList = [a, b, c]) :
    Calls Tryd.prog 35 #[.string x] W fun e w' => ∃ q d, e = .returned (.slice (some ⟨q, 0, none⟩) 3 d) ∧ w'.cell? ⟨q, 0, none⟩ = some (.int .i64 a) ∧ w'.cell? ⟨q, 1, none⟩ = some (.int .i64 b) ∧ w'.cell? ⟨q, 2, none⟩ = some (.int .i64 c) ∧ (∃ cur, w'.heap[q]? = some (.cells cur 3 (0, 0))) ∧ Below W.heap.size W w' :=
  h.mono (by
    rintro e w' ⟨q, n, d, rfl, rfl, _, hc, hqb, hb⟩
    have hc := hc.out
    have h0 := hc 0 (by rw [hn]; simp)
    have h1 := hc 1 (by rw [hn]; simp)
    have h2 := hc 2 (by rw [hn]; simp)
    simp only [hn] at h0 h1 h2
    exact ⟨q, d, by rw [hn]; rfl, h0, h1, h2, hqb, hb⟩)
theorem rdI_new (w : World) (s : ByteArray) : RdI w w.heap.size (w.heap.size + 1) (w.heap.size + 1 + 1) ((((w.alloc (.cells #[.int .i64 0, .slice none 0 0] 24)).alloc (.cells #[.int .i64 0, .slice none 0 0] 24)).alloc (.cells #[.bool true] 4)).alloc (.cells #[.string s] 9)).heap.size []
    ((((w.alloc (.cells #[.int .i64 0, .slice none 0 0] 24)).alloc (.cells #[.int .i64 0, .slice none 0 0] 24)).alloc (.cells #[.bool true] 4)).alloc (.cells #[.string s] 9)) := by
  have a1 := World.alloc_heap_new w (.cells #[.int .i64 0, .slice none 0 0] 24)
  have a2 := World.alloc_heap_new (w.alloc (.cells #[.int .i64 0, .slice none 0 0] 24)) (.cells #[.int .i64 0, .slice none 0 0] 24)
  have a3 := World.alloc_heap_new ((w.alloc (.cells #[.int .i64 0, .slice none 0 0] 24)).alloc (.cells #[.int .i64 0, .slice none 0 0] 24)) (.cells #[.bool true] 4)
  simp only [World.size_alloc] at a2 a3
  refine ⟨⟨none, 0, 0, ?_, rfl, World.ownsRow_nil _ _ _ _⟩, ?_, ?_, ?_, Nat.le_refl _⟩
  · exact (Below.heap_alloc _ _ _ (by simp)).trans ((Below.heap_alloc _ _ _ (by simp)).trans a2)
  · exact (Below.heap_alloc _ _ _ (by simp)).trans a3
  · exact (Below.heap_alloc _ _ _ (by simp; omega)).trans ((Below.heap_alloc _ _ _ (by simp; omega)).trans ((Below.heap_alloc _ _ _ (by simp)).trans a1))
  · exact ((((Below.refl _ w).alloc (Nat.le_refl _) _).alloc (by simp) _).alloc (by simp; omega) _).alloc (by simp; omega) _
theorem RdI.same {w : World} {r g f D : Nat} {pre pre' : List ByteArray} {W : World} (h : RdI w r g f D pre W) (hs : rdS (lnB pre') = rdS (lnB pre)) (he : pre'.isEmpty = pre.isEmpty) : RdI w r g f D pre' W :=
  ⟨by rw [hs]; exact h.hg, by rw [he]; exact h.hf, h.hr, h.hb, h.hd⟩
theorem inf_edgeS : (Tryd.prog.info? 84).map (fun i => (i.zero, i.size, i.bytes)) = some (some (.agg #[.int .i64 0, .int .i64 0, .int .i64 0]), 3, 24) := by kernel_rfl
theorem cells_new3 (W : World) (a b c : Value) (T : TypeId) : ∀ (j : Nat) (u : Value), [a, b, c][j]? = some u → (W.alloc (.cells #[a, b, c] T)).cell? ((⟨W.heap.size, 0, none⟩ : Addr).add j) = some u := by
  intro j u h
  rw [show ((⟨W.heap.size, 0, none⟩ : Addr).add j) = ⟨W.heap.size, j, none⟩ from by simp [Addr.add]; intro h; exact h.symm, cell_of_row _ W.heap.size j _ _ _ (World.alloc_heap_new W _)]
  simpa using h
/-- what lies below the rows lies on where the row grows -/
theorem grow_low {W w1 : World} {D : Nat} {e : TypeId} {size n : Nat} {v : Value} {xs : List Value} {tmp : Obj} (hrow : W.ownsRow D e size v n xs) (hg : (W.alloc tmp).grownBy w1 v.ownBlock) (k : Nat) (hk : k < D) (hk2 : k < W.heap.size) : w1.heap[k]? = W.heap[k]? := by
  refine (hg.block k (by simp; omega) (fun e => ?_)).trans (Below.heap_alloc _ _ _ hk2)
  rcases hrow.2 with ⟨rfl, _⟩ | ⟨g, cap, cur, rfl, hb, _, _⟩
  · simp [Value.ownBlock] at e
  · have : k = g := by simpa [Value.ownBlock] using e
    omega
theorem cel_alloc {w : World} {a : Addr} {v : Value} {o : Obj} (h : w.cell? a = some v) : (w.drew.alloc o).cell? a = some v := by
  have hb : a.block < w.heap.size := by
    rcases Nat.lt_or_ge a.block w.heap.size with hb | hb
    · exact hb
    · unfold World.cell? at h
      rw [Array.getElem?_eq_none hb] at h
      cases h
  exact (World.cell?_of_block (w := w) (w' := w.drew.alloc o) (Below.heap_alloc w.drew _ _ hb)).trans h
theorem grow_typ {W w1 : World} {D : Nat} {e t : TypeId} {size n : Nat} {v : Value} {xs : List Value} {tmp : Obj} {cu : Array Value} {fz : Nat × Nat} (hrow : W.ownsRow D e size v n xs) (hg : (W.alloc tmp).grownBy w1 v.ownBlock) (k : Nat) (hk : W.heap[k]? = some (.cells cu t fz)) (hte : t ≠ e) : w1.heap[k]? = W.heap[k]? := by
  have hk2 := (Array.getElem?_eq_some_iff.1 hk).1
  refine (hg.block k (by simp; omega) (fun e' => ?_)).trans (Below.heap_alloc _ _ _ hk2)
  rcases hrow.2 with ⟨rfl, _⟩ | ⟨g, cap, cur, rfl, hb, hc, _⟩
  · simp [Value.ownBlock] at e'
  · obtain rfl : k = g := by simpa [Value.ownBlock] using e'
    rw [hk] at hc
    injection hc with hc
    injection hc with _ h2 _
    exact hte h2
theorem ges_snoc1 (l : List Ge) (a b c : Int) : ges (l ++ [(a, b, c)]) = ges l ++ [Value.int .i64 a, .int .i64 b, .int .i64 c] := ges_snoc l (a, b, c)
/-- an edge more -/
theorem RdI.more {w : World} {r g f D : Nat} {pre pre' : List ByteArray} {W w1 : World} {p p' : Option Addr} {n c c' : Nat} {tmp : Obj} {a b cc : Int} (h : RdI w r g f D pre W) (hne : r ≠ g ∧ g ≠ f) (hgw : w.heap.size ≤ g) (hrD : r < D) (hgD : g < D) (hfD : f < D ∧ w.heap.size ≤ D)
    (hgr : W.heap[g]? = some (.cells #[.int .i64 (rdS (lnB pre)).1, .slice p n c] 24 (0, 0))) (hn : n = (rdS (lnB pre)).2.length) (hrow : W.ownsRow D 84 3 (.slice p n c) n (ges (rdS (lnB pre)).2))
    (hown : w1.ownsRow D 84 3 (.slice p' (n + 1) c') (n + 1) (ges (rdS (lnB pre)).2 ++ [.int .i64 a, .int .i64 b, .int .i64 cc])) (hg : (W.alloc tmp).grownBy w1 (Value.slice p n c).ownBlock)
    (hs : rdS (lnB pre') = ((rdS (lnB pre)).1, (rdS (lnB pre)).2 ++ [(a, b, cc)])) (he : pre'.isEmpty = pre.isEmpty) : RdI w r g f D pre' (w1.setCell ⟨g, 1, none⟩ (.slice p' (n + 1) c')) ∧ KeepsFrom D W (w1.setCell ⟨g, 1, none⟩ (.slice p' (n + 1) c')) := by
  have hd := h.hd
  have hsz : W.heap.size ≤ w1.heap.size := Nat.le_trans (by simp) hg.size
  have hlow := fun k hk => grow_low hrow hg k hk (by omega)
  have e1 := heap_setCell_same w1 g 1 _ _ (.slice p' (n + 1) c') ((hlow g hgD).trans hgr)
  have oth : ∀ k, k ≠ g → (w1.setCell ⟨g, 1, none⟩ (.slice p' (n + 1) c')).heap[k]? = w1.heap[k]? := fun k hk => Below.heap_setCell _ _ _ k hk
  refine ⟨⟨⟨p', n + 1, c', by rw [hs]; exact e1, by rw [hs]; simp [hn], ?_⟩, by rw [he]; exact (oth f (fun e => hne.2 e.symm)).trans ((hlow f hfD.1).trans h.hf), (oth r hne.1).trans ((hlow r hrD).trans h.hr), ?_, by rw [World.size_setCell]; omega⟩, ?_, ?_⟩
  · rw [hs]
    show World.ownsRow _ _ _ _ _ _ (ges ((rdS (lnB pre)).2 ++ [(a, b, cc)]))
    rw [ges_snoc1]
    refine ⟨hown.1, ?_⟩
    rcases hown.2 with hx | ⟨b', cap, cur, hv, hb, hc, hrest⟩
    · exact .inl hx
    · exact .inr ⟨b', cap, cur, hv, hb, (oth b' (by omega)).trans hc, hrest⟩
  · refine Below.setCell ?_ (p := ⟨g, 1, none⟩) hgw _
    refine (h.hb.alloc (by have := h.hb.size; omega) tmp).grown hg (by simp; omega) (fun k e => ?_)
    rcases hrow.2 with ⟨hv, _⟩ | ⟨b', cap, cur, hv, hb, _⟩
    · rw [hv] at e; simp [Value.ownBlock] at e
    · rw [hv] at e
      have : b' = k := by simpa [Value.ownBlock] using e
      omega
  · rw [World.size_setCell]; exact hsz
  · intro k o hk hko ho
    refine (oth k (by omega)).trans ((hg.block k (by have := (Array.getElem?_eq_some_iff.1 hko).1; simp; omega) (fun e => ?_)).trans ((Below.heap_alloc _ _ _ (Array.getElem?_eq_some_iff.1 hko).1).trans hko))
    rcases hrow.2 with ⟨hv, _⟩ | ⟨b', cap, cur, hv, hb, hc, _⟩
    · rw [hv] at e; simp [Value.ownBlock] at e
    · rw [hv] at e
      have : k = b' := by simpa [Value.ownBlock] using e
      subst this
      rw [hko] at hc; cases hc; cases ho
theorem rdS_bd (xs : List (List UInt8)) : -9223372036854775808 ≤ (rdS xs).1 ∧ (rdS xs).1 ≤ 9223372036854775807 := by
  cases xs with
  | nil => exact ⟨by decide, by decide⟩
  | cons x xs => exact numsL_hd x
/-- the end: the result stored, the rounds' block taken -/
theorem end_all {w w3 : World} {r D : Nat} {a b u v : Value} {T : TypeId} (hr : w3.heap[r]? = some (.cells #[a, b] T (0, 0))) (hw : w.heap.size ≤ r) (hrD : r < D) (hb : Below w.heap.size w w3) (hK : ((w3.setCell ⟨r, 0, none⟩ u).setCell ⟨r, 1, none⟩ v).heap[D]? = some (.deferred (some []))) :
    (((w3.setCell ⟨r, 0, none⟩ u).setCell ⟨r, 1, none⟩ v).putObj D (.deferred none)).cell? ⟨r, 0, none⟩ = some u ∧ (((w3.setCell ⟨r, 0, none⟩ u).setCell ⟨r, 1, none⟩ v).putObj D (.deferred none)).cell? ⟨r, 1, none⟩ = some v ∧
    Below w.heap.size w (((w3.setCell ⟨r, 0, none⟩ u).setCell ⟨r, 1, none⟩ v).putObj D (.deferred none)) ∧
    (∀ D0 e k q n c xs, r < D0 → w3.ownsRow D0 e k (.slice q n c) n xs → (((w3.setCell ⟨r, 0, none⟩ u).setCell ⟨r, 1, none⟩ v).putObj D (.deferred none)).ownsRow D0 e k (.slice q n c) n xs) := by
  have e1 : (w3.setCell ⟨r, 0, none⟩ u).heap[r]? = some (.cells #[u, b] T (0, 0)) := heap_setCell_same w3 r 0 _ _ _ hr
  have e2 : ((w3.setCell ⟨r, 0, none⟩ u).setCell ⟨r, 1, none⟩ v).heap[r]? = some (.cells #[u, v] T (0, 0)) := heap_setCell_same _ r 1 _ _ _ e1
  have e3 : (((w3.setCell ⟨r, 0, none⟩ u).setCell ⟨r, 1, none⟩ v).putObj D (.deferred none)).heap[r]? = some (.cells #[u, v] T (0, 0)) := (World.putObj_heap_other (by omega)).trans e2
  refine ⟨by rw [cell_of_row _ r 0 _ _ _ e3]; rfl, by rw [cell_of_row _ r 1 _ _ _ e3]; rfl, ?_, fun D0 e k q n c xs hr0 ho => ownsRow_putObj ⟨ho.1, ?_⟩ _ hK rfl⟩
  · refine ((hb.setCell (p := ⟨r, 0, none⟩) hw _).setCell (p := ⟨r, 1, none⟩) hw _).grown (grownBy_putObj' _ D _) ?_ (fun k e => by cases e; omega)
    rw [World.size_setCell, World.size_setCell]; exact hb.size
  · rcases ho.2 with hx | ⟨b', cap, cur, hv, hb', hc, hrest⟩
    · exact .inl hx
    · exact .inr ⟨b', cap, cur, hv, hb', (Below.heap_setCell _ _ _ b' (by show b' ≠ r; omega)).trans ((Below.heap_setCell _ _ _ b' (by show b' ≠ r; omega)).trans hc), hrest⟩
set_option maxHeartbeats 4000000 in
set_option maxRecDepth 100000 in
theorem read_ok (s : ByteArray) (w : World) (ht : Tabs w) :
    Calls Tryd.prog 12 #[.string s] w fun e w' => ReadOk s w e w' ∧ Below w.heap.size w w' := by
  refine (callsIn_wide (n := 10)).1 ?_
  refine callsIn_of_wp_marks Tryd.func12 rfl trivial ?_ rfl
  simp only [Tryd.ntmps12, List.size_toArray, List.length_cons, List.length_nil, Nat.reduceAdd, Nat.reduceSub, Array.replicate_succ, Array.replicate_zero, List.push_toArray, List.append_toArray, List.nil_append, List.cons_append]
  obtain ⟨i0, hie, hze, hz1, hz2⟩ := info_parts inf_edgeS
  have hmx : Tryd.prog.follows .mixedOrders = true := by kernel_rfl
  by_cases hbig : s.size > 20000
  · have hd1 : decide ((s.size : Int) > 20000) = true := decide_eq_true (by omega)
    have hd2 : decide (20000 < s.size) = true := decide_eq_true (by omega)
    have hd3 : decide ((20000 : Int) < (s.size : Int)) = true := decide_eq_true (by omega)
    gi_wp2
    refine ⟨.tuple #[.agg #[.int .i64 0, .slice none 0 0], .int .i64 1], ?_, .inl ⟨hbig, rfl⟩, (Below.refl _ w).alloc (Nat.le_refl _) _⟩
    rw [results_cell_tmp rfl]
    go_simp
  · have hd1 : decide ((s.size : Int) > 20000) = false := decide_eq_false (by omega)
    have hd2 : decide (20000 < s.size) = false := decide_eq_false (by omega)
    have hd3 : decide ((20000 : Int) < (s.size : Int)) = false := decide_eq_false (by omega)
    gi_wp2_with (refine ⟨trivial, ?_⟩; gi_at_call 34; refine (callsIn_wide.2 (lines_fn s _)).mono ?_; rintro e w' ⟨rfl, rfl⟩)
    obtain ⟨W0, hW0⟩ : ∃ W0 : World, W0 = ((((w.alloc (.cells #[.int .i64 0, .slice none 0 0] 24)).alloc (.cells #[.int .i64 0, .slice none 0 0] 24)).alloc (.cells #[.bool true] 4)).alloc (.cells #[.string s] 9)) := ⟨_, rfl⟩
    have hz0 : W0.heap.size = w.heap.size + 1 + 1 + 1 + 1 := by rw [hW0]; simp
    have hI0 : RdI w w.heap.size (w.heap.size + 1) (w.heap.size + 1 + 1) W0.heap.size [] W0 := by
      rw [hW0]
      exact rdI_new w s
    have hB0 : W0.heap[w.heap.size + 1 + 1 + 1]? = some (.cells #[.string s] 9 (0, 0)) := by
      rw [hW0]
      have := World.alloc_heap_new (((w.alloc (.cells #[.int .i64 0, .slice none 0 0] 24)).alloc (.cells #[.int .i64 0, .slice none 0 0] 24)).alloc (.cells #[.bool true] 4)) (.cells #[.string s] 9)
      simpa using this
    rw [← hW0]
    refine wpIn_range_box rfl (by omega) (gf := 56) (b := w.heap.size + 1 + 1 + 1) rfl trivial (enters_of Tryd.func56 (by kernel_rfl) rfl) (lines_seq _ (by omega) s (by omega) _) hB0 rfl
      (RdI w w.heap.size (w.heap.size + 1) (w.heap.size + 1 + 1) W0.heap.size) (fun _ _ => False) (RdI.own _ _ _ _ _ _ (by omega)) (fun _ _ _ _ h _ _ => h) (RdI.ab (by omega)) hI0
      (fun x => { tmps := #[.string s, undef, .pointer (some ⟨w.heap.size, 0, none⟩), .int .i64 0, .pointer (some ⟨w.heap.size + 1, 0, none⟩), .pointer (some ⟨w.heap.size + 1 + 1, 0, none⟩), .string x, undef, undef, undef, .string s, .int .i64 s.size, .bool false, undef, .string s,
        .func (.func 56) #[] #[.pointer (some ⟨w.heap.size + 1 + 1 + 1, 0, none⟩)], .string x, undef, undef, undef, undef, undef, undef, undef, undef, undef, undef, undef, undef, undef, undef, undef, undef, undef, undef, undef, undef, undef, undef, undef, undef, undef, undef, undef, undef, undef, undef, undef, undef, undef, undef, undef, undef, undef, undef, undef], defers := [] }) ?assign ?body ?done ?stop
    case assign =>
      intro l x W K hK
      gi_wp2
      exact hK
    case body =>
      rintro l pre x W hI ⟨post, hS⟩
      have hxs : x.size ≤ 20001 := by
        have h1 : x.data.toList ∈ linesL s.data.toList := by rw [← hS]; simp
        have := lines_le h1
        rw [← Lib.size_eq, ← Lib.size_eq] at this; omega
      have hs2 : s.size ≤ 20000 := by omega
      have HNM := Lib.hid (numbers_at x hxs W (ht.later hI.hb))
      have HI := Lib.hid hI
      have HSS := Lib.hid hS
      have hn1 : 1 ≤ 10 - 1 - 1 := by omega
      clear hI hS hI0 hB0 hxs hd1 hd2 hd3 hbig
      rcases List.eq_nil_or_concat pre with hpre | hpre
      · subst hpre
        gi_wp2_with (refine ⟨trivial, ?_⟩; gi_at_call 35; refine (CallsIn.inRound l (callsIn_wide.2 HNM.out)).mono ?_; rintro e w2 ⟨b2, n2, d2, rfl, hn2, hn3, hc2, _, hb2⟩; have HI2 := Lib.hid (HI.out.later hb2); have hcf := cell_of_row w2 (w.heap.size + 1 + 1) 0 _ _ _ HI2.out.hf; obtain ⟨pg, ng, cg, hgr, _, _⟩ := HI2.out.hg; have hcg := cell_of_row w2 (w.heap.size + 1) 0 _ _ _ hgr; have hc0 := hd_cell (hc2.out 0 (by omega)); have hfg := frz_of (i := 0) hgr; have hff := frz_of (i := 0) HI2.out.hf)
        have hbW : w.heap.size + 1 + 1 + 1 < W.heap.size := by have := HI.out.hd; omega
        refine ⟨(keeps_below hb2).trans ((KeepsFrom.of_grownBy grown_set (fun j e => by cases e; omega)).trans (KeepsFrom.of_grownBy grown_set (fun j e => by cases e; omega))), ?_, by have h := HI2.out.first (x := x) (by omega) (by omega) (by omega) (by omega) (by omega); rw [List.headD_eq_head?_getD] at h; exact h⟩
        exact (Below.heap_setCell _ _ _ _ (by show w.heap.size + 1 + 1 + 1 ≠ w.heap.size + 1 + 1; omega)).trans ((Below.heap_setCell _ _ _ _ (by show w.heap.size + 1 + 1 + 1 ≠ w.heap.size + 1; omega)).trans (hb2.block _ hbW))
      · have hem : pre.isEmpty = false := by obtain ⟨L, y, rfl⟩ := hpre; simp
        have hne : lnB pre ≠ [] := by obtain ⟨L, y, rfl⟩ := hpre; simp [lnB]
        have HSN := Lib.hid (show rdS (lnB (pre ++ [x])) = ((rdS (lnB pre)).1, (rdS (lnB pre)).2 ++ edgeOf x.data.toList) from by rw [lnB_snoc]; exact rdS_snoc hne _)
        have HEM := Lib.hid hem
        clear hpre hem hne
        by_cases h3 : (numsL x.data.toList).length = 3
        · obtain ⟨a, b, c, habc⟩ : ∃ a b c, numsL x.data.toList = [a, b, c] := three_of h3
          have HED := Lib.hid (show edgeOf x.data.toList = [(a, b, c)] from by unfold edgeOf; rw [habc])
          have HNM2 := Lib.hid (numbers_three HNM.out habc)
          clear h3 HNM habc
          have hcnt : (rdS (lnB pre)).2.length ≤ 20000 := by
            have h1 := rdS_len (lnB pre)
            have h2 := lines_many s.data.toList
            rw [← HSS.out, ← Lib.size_eq] at h2
            simp at h1 h2
            omega
          gi_wp2_with (refine ⟨trivial, ?_⟩; gi_at_call 35; refine (CallsIn.inRound l (callsIn_wide.2 HNM2.out)).mono ?_; rintro e w2 ⟨b2, d2, rfl, hc0, hc1, hc2, ⟨cu, hcu⟩, hb2⟩; have HI2 := Lib.hid (HI.out.later hb2); have hcf := fls_of HI2.out.hf HEM.out; obtain ⟨pg, ng, cg, hgr, hng, hrow⟩ := HI2.out.hg; have hng2 : ng ≤ 20000 := hng ▸ hcnt; have HNG := Lib.hid hng; clear hng; have hcg := cell_of_row w2 (w.heap.size + 1) 1 _ _ _ hgr; have hfg := frz_of (i := 1) hgr; have hds := HI2.out.hd)
          obtain ⟨S, hSI⟩ : ∃ S : World → Prop, ∀ w', S w' ↔ (w'.cell? ⟨w.heap.size + 1, 1, none⟩ = some (Value.slice pg ng cg) ∧ w'.cell? ⟨b2, 0, none⟩ = some (Value.int .i64 a) ∧ w'.cell? ⟨b2, 1, none⟩ = some (Value.int .i64 b) ∧ w'.cell? ⟨b2, 2, none⟩ = some (Value.int .i64 c)) := ⟨fun w' => _, fun w' => Iff.rfl⟩
          have HSI := Lib.hid hSI
          clear hSI
          have HIW := Lib.hid (HI2.out.later ((Below.refl _ w2).drew))
          refine wpIn_region_L S 15 hmx (by kernel_rfl) ((HSI.out _).2 ⟨hcg, hc0, hc1, hc2⟩) (fun hS => ?_)
          refine wpAnyL_take 0 (v := ?_) rfl rfl (by kernel_rfl) (by kernel_rfl) (by kernel_rfl) (by kernel_rfl) (fun _ _ _ h => h) (Or.inl ⟨by rfl, ?_⟩) hS ?_; rotate_left; · intro w hSw; go_simp <;> with_reducible rfl
          try simp only [Act.put, List.setIfInBounds_toArray, List.set_cons_zero, List.set_cons_succ]
          refine wpAnyL_take 1 (v := ?_) rfl rfl (by kernel_rfl) (by kernel_rfl) (by kernel_rfl) (by kernel_rfl) (fun _ _ _ h => h) (Or.inl ⟨by rfl, ?_⟩) hS ?_; rotate_left; · intro w hSw; obtain ⟨hz0, hz1, hz2, hz3⟩ := (HSI.out w).1 hSw; go_simp <;> with_reducible rfl
          try simp only [Act.put, List.setIfInBounds_toArray, List.set_cons_zero, List.set_cons_succ]
          refine wpAnyL_take 2 (v := ?_) rfl rfl (by kernel_rfl) (by kernel_rfl) (by kernel_rfl) (by kernel_rfl) (fun _ _ _ h => h) (Or.inl ⟨by rfl, ?_⟩) hS ?_; rotate_left; · intro w hSw; go_simp <;> with_reducible rfl
          try simp only [Act.put, List.setIfInBounds_toArray, List.set_cons_zero, List.set_cons_succ]
          refine wpAnyL_take 3 (v := ?_) rfl rfl (by kernel_rfl) (by kernel_rfl) (by kernel_rfl) (by kernel_rfl) (fun _ _ _ h => h) (Or.inl ⟨by rfl, ?_⟩) hS ?_; rotate_left; · intro w hSw; go_simp <;> with_reducible rfl
          try simp only [Act.put, List.setIfInBounds_toArray, List.set_cons_zero, List.set_cons_succ]
          refine wpAnyL_take 4 (v := ?_) rfl rfl (by kernel_rfl) (by kernel_rfl) (by kernel_rfl) (by kernel_rfl) (fun _ _ _ h => h) (Or.inl ⟨by rfl, ?_⟩) hS ?_; rotate_left; · intro w hSw; obtain ⟨hz0, hz1, hz2, hz3⟩ := (HSI.out w).1 hSw; go_simp <;> with_reducible rfl
          try simp only [Act.put, List.setIfInBounds_toArray, List.set_cons_zero, List.set_cons_succ]
          refine wpAnyL_take 5 (v := ?_) rfl rfl (by kernel_rfl) (by kernel_rfl) (by kernel_rfl) (by kernel_rfl) (fun _ _ _ h => h) (Or.inl ⟨by rfl, ?_⟩) hS ?_; rotate_left; · intro w hSw; go_simp <;> with_reducible rfl
          try simp only [Act.put, List.setIfInBounds_toArray, List.set_cons_zero, List.set_cons_succ]
          refine wpAnyL_take 6 (v := ?_) rfl rfl (by kernel_rfl) (by kernel_rfl) (by kernel_rfl) (by kernel_rfl) (fun _ _ _ h => h) (Or.inl ⟨by rfl, ?_⟩) hS ?_; rotate_left; · intro w hSw; go_simp <;> with_reducible rfl
          try simp only [Act.put, List.setIfInBounds_toArray, List.set_cons_zero, List.set_cons_succ]
          refine wpAnyL_take 7 (v := ?_) rfl rfl (by kernel_rfl) (by kernel_rfl) (by kernel_rfl) (by kernel_rfl) (fun _ _ _ h => h) (Or.inl ⟨by rfl, ?_⟩) hS ?_; rotate_left; · intro w hSw; obtain ⟨hz0, hz1, hz2, hz3⟩ := (HSI.out w).1 hSw; go_simp <;> with_reducible rfl
          try simp only [Act.put, List.setIfInBounds_toArray, List.set_cons_zero, List.set_cons_succ]
          refine wpAnyL_take 8 (v := ?_) rfl rfl (by kernel_rfl) (by kernel_rfl) (by kernel_rfl) (by kernel_rfl) (fun _ _ _ h => h) (Or.inl ⟨by rfl, ?_⟩) hS ?_; rotate_left; · intro w hSw; go_simp <;> with_reducible rfl
          try simp only [Act.put, List.setIfInBounds_toArray, List.set_cons_zero, List.set_cons_succ]
          refine wpAnyL_take 9 (v := ?_) rfl rfl (by kernel_rfl) (by kernel_rfl) (by kernel_rfl) (by kernel_rfl) (fun _ _ _ h => h) (Or.inl ⟨by rfl, ?_⟩) hS ?_; rotate_left; · intro w hSw; go_simp <;> with_reducible rfl
          try simp only [Act.put, List.setIfInBounds_toArray, List.set_cons_zero, List.set_cons_succ]
          refine wpAnyL_take 10 (v := ?_) rfl rfl (by kernel_rfl) (by kernel_rfl) (by kernel_rfl) (by kernel_rfl) (fun _ _ _ h => h) (Or.inl ⟨by rfl, ?_⟩) hS ?_; rotate_left; · intro w hSw; obtain ⟨hz0, hz1, hz2, hz3⟩ := (HSI.out w).1 hSw; go_simp <;> with_reducible rfl
          try simp only [Act.put, List.setIfInBounds_toArray, List.set_cons_zero, List.set_cons_succ]
          refine wpAnyL_take 11 (v := ?_) rfl rfl (by kernel_rfl) (by kernel_rfl) (by kernel_rfl) (by kernel_rfl) (fun _ _ _ h => h) (Or.inl ⟨by rfl, ?_⟩) hS ?_; rotate_left; · intro w hSw; go_simp <;> with_reducible rfl
          try simp only [Act.put, List.setIfInBounds_toArray, List.set_cons_zero, List.set_cons_succ]
          refine wpAnyL_one 12 rfl rfl (by kernel_rfl) ?_; intro K hK; rw [if_pos (by rfl)]
          go_simp
          have hqs := (HSI.out (w2.drew.alloc (.cells #[.int .i64 a, .int .i64 b, .int .i64 c] 84))).2 ⟨cel_alloc hcg, cel_alloc hc0, cel_alloc hc1, cel_alloc hc2⟩
          refine hK.out _ _ (fun _ => hqs) ?_; clear hK K
          have hS := hqs
          clear hqs
          try simp only [Act.put, List.setIfInBounds_toArray, List.set_cons_zero, List.set_cons_succ]
          refine wpAnyL_one 13 rfl rfl (by kernel_rfl) ?_; intro K hK; rw [if_pos (by rfl)]
          have hrowd : w2.drew.ownsRow W0.heap.size 84 3 (.slice pg ng cg) ng (ges (rdS (lnB pre)).2) := hrow
          have hgrd : w2.drew.heap[w.heap.size + 1]? = some (.cells #[.int .i64 (rdS (lnB pre)).1, .slice pg ng cg] 24 (0, 0)) := hgr
          refine wp_app_op (w0 := (w2.drew.alloc (.cells #[.int .i64 a, .int .i64 b, .int .i64 c] 84))) (.tmp 28) (.tmp 39) _ rfl W0.heap.size 84 rfl inf_edgeS rfl (by decide) rfl (hrowd.alloc _) rfl (m := 1) (news := [.int .i64 a, .int .i64 b, .int .i64 c]) (sl_new w2.drew [Value.int .i64 a, .int .i64 b, .int .i64 c] 84) (by simp [Value.oneCell']) (by unfold maxLen; omega) (by omega) (Below.refl _ _) (by show W0.heap.size ≤ (w2.alloc (.cells #[.int .i64 a, .int .i64 b, .int .i64 c] 84)).heap.size; rw [World.size_alloc]; exact Nat.le_succ_of_le HIW.out.hd) ?_
          intro q1 d1 w7 hown7 _ hs7 hg7 _
          clear hS
          have hbg := grow_low hrowd hg7 (w.heap.size + 1) (by omega) (by have := HIW.out.hd; omega)
          have hbq := grow_typ hrowd hg7 b2 hcu (by decide)
          have hqs := (HSI.out w7).2 ⟨(World.cell?_of_block (a := ⟨w.heap.size + 1, 1, none⟩) hbg).trans hcg, (World.cell?_of_block (a := ⟨b2, 0, none⟩) hbq).trans hc0, (World.cell?_of_block (a := ⟨b2, 1, none⟩) hbq).trans hc1, (World.cell?_of_block (a := ⟨b2, 2, none⟩) hbq).trans hc2⟩
          have hqf1 := frz_of (i := 1) (hbg.trans hgrd)
          have hqf0 := (World.cell?_of_block (a := ⟨w.heap.size + 1, 1, none⟩) hbg).trans hcg
          refine hK.out _ _ (fun _ => hqs) ?_; clear hK K
          have hS := hqs
          clear hqs
          try simp only [Act.put, List.setIfInBounds_toArray, List.set_cons_zero, List.set_cons_succ]
          refine wpAnyL_take 14 (v := ?_) rfl rfl (by kernel_rfl) (by kernel_rfl) (by kernel_rfl) (by kernel_rfl) (fun _ _ _ h => h) (Or.inl ⟨by rfl, ?_⟩) hS ?_; rotate_left; · intro w hSw; go_simp <;> with_reducible rfl
          try simp only [Act.put, List.setIfInBounds_toArray, List.set_cons_zero, List.set_cons_succ]
          refine wpAnyL_one 15 rfl rfl (by kernel_rfl) ?_; intro K hK; rw [if_pos (by rfl)]
          go_simp
          refine hK.out _ _ (fun h => absurd rfl h) ?_; clear hK K
          refine wpAnyL_done (by kernel_rfl) ?_ _
          refine ⟨rfl, ?_⟩
          gi_wp2
          have hbW : w.heap.size + 1 + 1 + 1 < W.heap.size := by have := HI.out.hd; omega
          have hbW2 : w.heap.size + 1 + 1 + 1 < w2.drew.heap.size := Nat.lt_of_lt_of_le hbW hb2.size
          have hmo := HIW.out.more (pre' := pre ++ [x]) (by omega) (by omega) (by omega) (by omega) (by omega) hgrd HNG.out hrowd hown7 hg7 (by rw [HSN.out, HED.out]) (by rw [HEM.out]; simp)
          exact ⟨(keeps_below hb2).trans ⟨hmo.2.size, hmo.2.same⟩, (Below.heap_setCell _ _ _ _ (by show w.heap.size + 1 + 1 + 1 ≠ w.heap.size + 1; omega)).trans ((grow_low hrowd hg7 (w.heap.size + 1 + 1 + 1) (by omega) hbW2).trans (hb2.block _ hbW)), hmo.1⟩
        · have HED := Lib.hid (edgeOf_none h3)
          have hd3 : decide ((((numsL x.data.toList).length : Nat) : Int) = 3) = false := decide_eq_false (by omega)
          have hd4 : decide ((numsL x.data.toList).length = 3) = false := decide_eq_false h3
          gi_wp2_with (refine ⟨trivial, ?_⟩; gi_at_call 35; refine (CallsIn.inRound l (callsIn_wide.2 HNM.out)).mono ?_; rintro e w2 ⟨b2, n2, d2, rfl, hn2, hn3, hc2, _, hb2⟩; have HI2 := Lib.hid (HI.out.later hb2); have hcf := fls_of HI2.out.hf HEM.out)
          have hbW : w.heap.size + 1 + 1 + 1 < W.heap.size := by have := HI.out.hd; omega
          exact ⟨keeps_below hb2, hb2.block _ hbW, HI2.out.same (by rw [HSN.out, HED.out, List.append_nil]) (by rw [HEM.out]; simp)⟩
    case done =>
      rintro D xs W hD hS hI hK
      obtain ⟨pg, ng, cg, hgr, hng, hrow⟩ := hI.hg
      have hrd : rdS (lnB xs) = readL s.data.toList := by rw [readL_rdS, ← hS]
      have hbd := rdS_bd (lnB xs)
      rw [hrd] at hgr hng hrow hbd
      have HSH := Lib.hid (show_ok _ hbd.1 hbd.2 pg ng cg _ W (Sl.of_own hrow) (ht.later hI.hb))
      have hcg0 := cell_of_row W (w.heap.size + 1) 0 _ _ _ hgr
      have hcg1 := cell_of_row W (w.heap.size + 1) 1 _ _ _ hgr
      have HNG := Lib.hid hng
      have HRW := Lib.hid hrow
      have HI := Lib.hid hI
      have HK := Lib.hid hK
      have HGR := Lib.hid hgr
      have HSR := Lib.hid (show ReadOk s w = ReadOk s w from rfl)
      clear hS hI hK hgr hng hrow hI0 hB0 hrd
      obtain ⟨N, hN⟩ : ∃ N, N = (readL s.data.toList).1 := ⟨_, rfl⟩
      obtain ⟨E, hE⟩ : ∃ E, E = (readL s.data.toList).2 := ⟨_, rfl⟩
      rw [← hN] at HSH HGR
      rw [← hE] at HSH HRW HNG
      rw [← hN] at hcg0 hcg1 hbd
      have HN := Lib.hid hN
      have HE := Lib.hid hE
      clear hN hE
      obtain ⟨ce, hce⟩ : ∃ ce, ce = chkF N E := ⟨_, rfl⟩
      obtain ⟨sh, hsh⟩ : ∃ sh, sh = shF N E := ⟨_, rfl⟩
      rw [← hce, ← hsh] at HSH
      have HCE := Lib.hid hce
      have HSE := Lib.hid hsh
      clear hce hsh hd1 hd2 hd3 hbd
      by_cases hc0 : ce = 0
      · subst hc0
        by_cases hs0 : sh = s
        · obtain rfl : sh = s := hs0
          gi_wp2_with (refine ⟨trivial, ?_⟩; gi_at_call 10; refine (callsIn_wide.2 HSH.out).mono ?_; rintro e w3 ⟨rfl, hb3⟩; have HI3 := Lib.hid (HI.out.later hb3); have hcr := frz_of (i := 0) HI3.out.hr; have hcr1 := frz_of (i := 1) HI3.out.hr; have hgc0 := cell_of_row w3 w.heap.size 0 _ _ _ HI3.out.hr; have hgc1 := cell_of_row w3 w.heap.size 1 _ _ _ HI3.out.hr; have hbg3 := hb3.block (w.heap.size + 1) (by have := HI.out.hd; omega); have hcg30 := (World.cell?_of_block (a := ⟨w.heap.size + 1, 0, none⟩) hbg3).trans hcg0; have hcg31 := (World.cell?_of_block (a := ⟨w.heap.size + 1, 1, none⟩) hbg3).trans hcg1)
          have hKD : ∀ u v, ((w3.setCell ⟨w.heap.size, 0, none⟩ u).setCell ⟨w.heap.size, 1, none⟩ v).heap[D]? = some (.deferred (some [])) := fun u v => (Below.heap_setCell _ _ _ D (by show D ≠ w.heap.size; omega)).trans ((Below.heap_setCell _ _ _ D (by show D ≠ w.heap.size; omega)).trans ((hb3.block D (Array.getElem?_eq_some_iff.1 HK.out).1).trans HK.out))
          refine ⟨by simp, .inl ⟨_, _, rfl, run_takeDeferred (hKD _ _), ?_⟩⟩
          obtain ⟨hf0, hf1, hfb, hfo⟩ := end_all (u := .int .i64 N) (v := .slice pg ng cg) HI3.out.hr (Nat.le_refl _) (by omega) HI3.out.hb (hKD _ _)
          refine ⟨.tuple #[.agg #[.int .i64 N, .slice pg ng cg], .int .i64 0], ?_, .inr (.inr ⟨by omega, ⟨by rw [← HN.out, ← HE.out]; exact HCE.out.symm, by rw [← HN.out, ← HE.out, ← HSE.out]⟩, pg, ng, cg, by rw [HN.out], by rw [HNG.out, HE.out], own_mono (by rw [← HE.out]; exact hfo _ _ _ _ _ _ _ (by omega) (own_later HRW.out hb3)) (by omega)⟩), hfb⟩
          rw [results_cell_tmp rfl]
          go_simp
        · have hne1 : (sh.toList == s.toList) = false := by rw [beq_eq_false_iff_ne]; intro h; rw [ByteArray.toList_eq, ByteArray.toList_eq] at h; exact hs0 (ByteArray.ext (Array.toList_inj.1 h))
          have hne3 : decide (sh = s) = false := decide_eq_false hs0
          gi_wp2_with (refine ⟨trivial, ?_⟩; gi_at_call 10; refine (callsIn_wide.2 HSH.out).mono ?_; rintro e w3 ⟨rfl, hb3⟩; have HI3 := Lib.hid (HI.out.later hb3); have hcr := frz_of (i := 0) HI3.out.hr; have hcr1 := frz_of (i := 1) HI3.out.hr; have hgc0 := cell_of_row w3 w.heap.size 0 _ _ _ HI3.out.hr; have hgc1 := cell_of_row w3 w.heap.size 1 _ _ _ HI3.out.hr; have hbg3 := hb3.block (w.heap.size + 1) (by have := HI.out.hd; omega); have hcg30 := (World.cell?_of_block (a := ⟨w.heap.size + 1, 0, none⟩) hbg3).trans hcg0; have hcg31 := (World.cell?_of_block (a := ⟨w.heap.size + 1, 1, none⟩) hbg3).trans hcg1)
          have hKD : ∀ u v, ((w3.setCell ⟨w.heap.size, 0, none⟩ u).setCell ⟨w.heap.size, 1, none⟩ v).heap[D]? = some (.deferred (some [])) := fun u v => (Below.heap_setCell _ _ _ D (by show D ≠ w.heap.size; omega)).trans ((Below.heap_setCell _ _ _ D (by show D ≠ w.heap.size; omega)).trans ((hb3.block D (Array.getElem?_eq_some_iff.1 HK.out).1).trans HK.out))
          refine ⟨by simp, .inl ⟨_, _, rfl, run_takeDeferred (hKD _ _), ?_⟩⟩
          obtain ⟨hf0, hf1, hfb, hfo⟩ := end_all (u := .int .i64 0) (v := .slice none 0 0) HI3.out.hr (Nat.le_refl _) (by omega) HI3.out.hb (hKD _ _)
          refine ⟨.tuple #[.agg #[.int .i64 0, .slice none 0 0], .int .i64 3], ?_, .inr (.inl ⟨by omega, fun hbs => hs0 (by have h := hbs.2; rw [← HN.out, ← HE.out, ← HSE.out] at h; exact ByteArray.ext (Array.toList_inj.1 h)), rfl⟩), hfb⟩
          rw [results_cell_tmp rfl]
          go_simp
      · have hne : (ce != 0) = true := by simpa using hc0
        have hne1 : (ce == 0) = false := by simpa using hc0
        gi_wp2_with (refine ⟨trivial, ?_⟩; gi_at_call 10; refine (callsIn_wide.2 HSH.out).mono ?_; rintro e w3 ⟨rfl, hb3⟩; have HI3 := Lib.hid (HI.out.later hb3); have hcr := frz_of (i := 0) HI3.out.hr; have hcr1 := frz_of (i := 1) HI3.out.hr; have hgc0 := cell_of_row w3 w.heap.size 0 _ _ _ HI3.out.hr; have hgc1 := cell_of_row w3 w.heap.size 1 _ _ _ HI3.out.hr; have hbg3 := hb3.block (w.heap.size + 1) (by have := HI.out.hd; omega); have hcg30 := (World.cell?_of_block (a := ⟨w.heap.size + 1, 0, none⟩) hbg3).trans hcg0; have hcg31 := (World.cell?_of_block (a := ⟨w.heap.size + 1, 1, none⟩) hbg3).trans hcg1)
        have hKD : ∀ u v, ((w3.setCell ⟨w.heap.size, 0, none⟩ u).setCell ⟨w.heap.size, 1, none⟩ v).heap[D]? = some (.deferred (some [])) := fun u v => (Below.heap_setCell _ _ _ D (by show D ≠ w.heap.size; omega)).trans ((Below.heap_setCell _ _ _ D (by show D ≠ w.heap.size; omega)).trans ((hb3.block D (Array.getElem?_eq_some_iff.1 HK.out).1).trans HK.out))
        refine ⟨by simp, .inl ⟨_, _, rfl, run_takeDeferred (hKD _ _), ?_⟩⟩
        obtain ⟨hf0, hf1, hfb, hfo⟩ := end_all (u := .int .i64 0) (v := .slice none 0 0) HI3.out.hr (Nat.le_refl _) (by omega) HI3.out.hb (hKD _ _)
        refine ⟨.tuple #[.agg #[.int .i64 0, .slice none 0 0], .int .i64 3], ?_, .inr (.inl ⟨by omega, fun hbs => hc0 (by have h := hbs.1; rw [← HN.out, ← HE.out, ← HCE.out] at h; exact h), rfl⟩), hfb⟩
        rw [results_cell_tmp rfl]
        go_simp
    case stop =>
      rintro D pre W _ h
      exact h.elim
end Go.Proofs.YtmdbcknlipahgaaDoor
