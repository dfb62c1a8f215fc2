/- One contract of link.Hear and of link.Acked for the loop of the law; rows and boxes told apart by their types. -/
import Derived.Test.YtmadpjmlcooinaaLRep
namespace Go.Proofs.Ytmadpjmlcooinaa
open Go.RowKit
def hrW (wa no : Nat) : Nat := if no = wa then wa + 1 else wa
def hrN (wa no : Nat) : Nat := if no = wa then 1 else 0
def hrM (wa no : Nat) (m : Ml) : List Ml := if no = wa then [m] else []
theorem hrM_len (wa no : Nat) (m : Ml) : (hrM wa no m).length = hrN wa no := by unfold hrM hrN; split <;> rfl
theorem hrN_le (wa no : Nat) : hrN wa no ≤ 1 := by unfold hrN; split <;> omega
theorem hrW_le (wa no : Nat) : hrW wa no ≤ wa + 1 := by unfold hrW; split <;> omega
theorem hear_any (ep wa no : Nat) (m : Ml) (w : World) (he : ep ≤ 1099511627776) (hw : wa ≤ 1099511627776) :
    Calls Try.prog 21 #[rcvV ep wa, pktV ep no m] w fun e w' => ∃ p c, e = .returned (.tuple #[rcvV ep (hrW wa no), .slice p (hrN wa no) c, ackV ep (hrW wa no), .int .i64 0]) ∧ w'.ownsRow w.heap.size 41 2 (.slice p (hrN wa no) c) (hrN wa no) (mcs (hrM wa no m)) ∧ Below w.heap.size w w' := by
  by_cases h : no = wa
  · subst h
    refine (hear_next ep no m w he hw).mono ?_
    rintro e w' ⟨p, c, rfl, h1, h2⟩
    refine ⟨p, c, ?_, ?_, h2⟩
    · unfold hrW hrN; rw [if_pos rfl, if_pos rfl]
    · unfold hrN hrM; rw [if_pos rfl, if_pos rfl]; exact h1
  · refine (hear_other ep wa no m w he hw h).mono ?_
    rintro e w' ⟨rfl, h2⟩
    refine ⟨none, 0, ?_, ?_, h2⟩
    · unfold hrW hrN; rw [if_neg h, if_neg h]
    · unfold hrN hrM; rw [if_neg h, if_neg h]; exact World.ownsRow_nil _ _ _ _
theorem hear_eq (s : LS) (q : Nat × Ml) : s.hear q = { s with want := hrW s.want q.1, got := s.got ++ hrM s.want q.1 q.2, ak := s.ak ++ [hrW s.want q.1] } := by
  unfold LS.hear hrW hrM
  split
  · rfl
  · simp
theorem bcell {W w1 : World} (hb : Below W.heap.size W w1) : (∀ b o, b < W.heap.size → w1.cell? ⟨b, o, none⟩ = W.cell? ⟨b, o, none⟩) ∧ (∀ b o, b < W.heap.size → w1.frozen? ⟨b, o, none⟩ = W.frozen? ⟨b, o, none⟩) :=
  ⟨fun b o h => hb.cell (p := ⟨b, o, none⟩) h, fun b o h => hb.frozen (p := ⟨b, o, none⟩) h⟩
/-- a box known with its type -/
def BxT (w : World) (g : Nat) (cs : List Value) (t : TypeId) : Prop := w.heap[g]? = some (.cells cs.toArray t (0, 0))
theorem BxT.bx {w : World} {g : Nat} {cs : List Value} {t : TypeId} (h : BxT w g cs t) : Bx w g cs := ⟨t, h⟩
theorem BxT.lt {w : World} {g : Nat} {cs : List Value} {t : TypeId} (h : BxT w g cs t) : g < w.heap.size := (Array.getElem?_eq_some_iff.1 h).1
theorem BxT.later {B : Nat} {w w' : World} {g : Nat} {cs : List Value} {t : TypeId} (h : BxT w g cs t) (hb : Below B w w') (hg : g < B) : BxT w' g cs t := (hb.block g hg).trans h
theorem BxT.alloc {w : World} {g : Nat} {cs : List Value} {t : TypeId} (h : BxT w g cs t) (o : Obj) : BxT (w.alloc o) g cs t := (Below.heap_alloc _ _ _ h.lt).trans h
theorem BxT.grown {w w' : World} {g : Nat} {o : Option Nat} {cs : List Value} {t : TypeId} (h : BxT w g cs t) (hg : w.grownBy w' o) (ho : o ≠ some g) : BxT w' g cs t := (hg.block g h.lt (fun e => ho e.symm)).trans h
theorem BxT.other {w : World} {g : Nat} {cs : List Value} {t : TypeId} (h : BxT w g cs t) {a : Addr} (ha : g ≠ a.block) (u : Value) : BxT (w.setCell a u) g cs t := by
  unfold BxT; rw [Below.heap_setCell _ _ _ _ ha]; exact h
theorem bxT_new (w : World) (cs : List Value) (t : TypeId) : BxT (w.alloc (.cells cs.toArray t)) w.heap.size cs t := heap_alloc_new w _
/-- an own row of another type lies in another block -/
theorem own_box {w : World} {B : Nat} {e t : TypeId} {size n g : Nat} {v : Value} {xs cs : List Value} (h : w.ownsRow B e size v n xs) (hx : BxT w g cs t) (het : e ≠ t) : v.ownBlock ≠ some g := by
  intro hk
  rcases h.2 with ⟨rfl, _⟩ | ⟨g', cap, cur, rfl, _, h2, _⟩
  · cases hk
  · have e2 : g' = g := by cases hk; rfl
    subst e2
    unfold BxT at hx
    rw [h2] at hx
    cases hx
    exact het rfl
theorem own_ne_store {w : World} {B : Nat} {e : TypeId} {size n g : Nat} {v : Value} {xs : List Value} (h : w.ownsRow B e size v n xs) (hne : v.ownBlock ≠ some g) (i : Nat) (u : Value) : (w.setCell ⟨g, i, none⟩ u).ownsRow B e size v n xs :=
  own_grown h (grown_setCell w g i u) (fun _ hk e => hne (hk.trans e.symm))
theorem LRep.setbox {wr : World} {B g7 g9 g10 : Nat} {s : LS} {v15 v16 v17 : Value} {pl : Option Addr} {cl : Nat} (h : LRep wr B g7 g9 g10 s v15 v16 v17 pl cl) {g : Nat} (h7 : g7 ≠ g) (h9 : g9 ≠ g) (h10 : g10 ≠ g)
    (hl : (Value.slice pl s.loads.length cl).ownBlock ≠ some g) (hp : v15.ownBlock ≠ some g) (ha : v16.ownBlock ≠ some g) (hg : v17.ownBlock ≠ some g) (i : Nat) (u : Value) : LRep (wr.setCell ⟨g, i, none⟩ u) B g7 g9 g10 s v15 v16 v17 pl cl := by
  obtain ⟨a, b, c, hb7⟩ := h.b7
  exact ⟨⟨a, b, c, hb7.other h7 u⟩, h.b9.other h9 u, h.b10.other h10 u, own_ne_store h.lo hl i u, own_ne_store h.pk hp i u, own_ne_store h.ak ha i u, own_ne_store h.go hg i u, h.sep, by rw [size_setCell]; exact h.hB⟩
theorem LRep.alloc {wr : World} {B g7 g9 g10 : Nat} {s : LS} {v15 v16 v17 : Value} {pl : Option Addr} {cl : Nat} (h : LRep wr B g7 g9 g10 s v15 v16 v17 pl cl) (o : Obj) : LRep (wr.alloc o) B g7 g9 g10 s v15 v16 v17 pl cl :=
  h.later ((Below.refl _ _).alloc (Nat.le_refl _) o)
theorem LRep.drew {wr : World} {B g7 g9 g10 : Nat} {s : LS} {v15 v16 v17 : Value} {pl : Option Addr} {cl : Nat} (h : LRep wr B g7 g9 g10 s v15 v16 v17 pl cl) : LRep wr.drew B g7 g9 g10 s v15 v16 v17 pl cl :=
  h.later ((Below.refl _ _).drew)
/-- rows that lie below a block -/
theorem LRep.far {wr : World} {B g7 g9 g10 : Nat} {s : LS} {v15 v16 v17 : Value} {pl : Option Addr} {cl : Nat} (h : LRep wr B g7 g9 g10 s v15 v16 v17 pl cl) {g : Nat} (hg : wr.heap.size ≤ g) :
    (Value.slice pl s.loads.length cl).ownBlock ≠ some g ∧ v15.ownBlock ≠ some g ∧ v16.ownBlock ≠ some g ∧ v17.ownBlock ≠ some g :=
  ⟨fun e => by have := (h.lo.lt g e).2; omega, fun e => by have := (h.pk.lt g e).2; omega, fun e => by have := (h.ak.lt g e).2; omega, fun e => by have := (h.go.lt g e).2; omega⟩
/-- the receiver's box is stored anew -/
theorem LRep.heard {wr : World} {B g7 g9 g10 : Nat} {s : LS} {v15 v16 v17 : Value} {pl : Option Addr} {cl : Nat} (h : LRep wr B g7 g9 g10 s v15 v16 v17 pl cl) (h7 : g7 ≠ g10) (h9 : g9 ≠ g10) (hB : g10 < B) (wa : Nat) :
    LRep ((wr.setCell ⟨g10, 0, none⟩ (.int .i64 1)).setCell ⟨g10, 1, none⟩ (.int .i64 (wa : Int))) B g7 g9 g10 { s with want := wa } v15 v16 v17 pl cl := by
  obtain ⟨a, b, c, hb7⟩ := h.b7
  exact ⟨⟨a, b, c, bx_far2 hb7 h7 _ _⟩, bx_far2 h.b9 h9 _ _, bx_store2 h.b10 _ _, own_store2 h.lo hB _ _, own_store2 h.pk hB _ _, own_store2 h.ak hB _ _, own_store2 h.go hB _ _, h.sep, by simp only [size_setCell]; exact h.hB⟩
/-- the sender's box is stored anew, with other loads -/
theorem LRep.acked {wr : World} {B g7 g9 g10 : Nat} {s : LS} {v15 v16 v17 : Value} {pl pl' : Option Addr} {cl cl' : Nat} (h : LRep wr B g7 g9 g10 s v15 v16 v17 pl cl) (h7 : g7 ≠ g9) (h10 : g10 ≠ g9) (hB : g9 < B) (ba : Nat) (ld : List Ml)
    (hlo : wr.ownsRow B 41 2 (.slice pl' ld.length cl') ld.length (mcs ld)) (hsep : ∀ k, v17.ownBlock = some k → (Value.slice pl' ld.length cl').ownBlock ≠ some k) :
    LRep (((wr.setCell ⟨g9, 0, none⟩ (.int .i64 1)).setCell ⟨g9, 1, none⟩ (.int .i64 (ba : Int))).setCell ⟨g9, 2, none⟩ (.slice pl' ld.length cl')) B g7 g9 g10 { s with ba := ba, loads := ld } v15 v16 v17 pl' cl' := by
  obtain ⟨a, b, c, hb7⟩ := h.b7
  exact ⟨⟨a, b, c, bx_far3 hb7 h7 _ _ _⟩, bx_store3 h.b9 _ _ _, bx_far3 h.b10 h10 _ _ _, own_store3 hlo hB _ _ _, own_store3 h.pk hB _ _ _, own_store3 h.ak hB _ _ _, own_store3 h.go hB _ _ _, hsep, by simp only [size_setCell]; exact h.hB⟩
theorem own_top {w : World} {B : Nat} {e : TypeId} {size n : Nat} {v : Value} {xs : List Value} (h : w.ownsRow B e size v n xs) : v.ownBlock ≠ some w.heap.size := fun k => by
  have := (h.lt _ k).2
  omega
theorem box_kept0 {wr w2 : World} (hb : Below wr.drew.heap.size wr.drew w2) : Below wr.heap.size wr w2 := (Below.refl _ wr).drew.trans hb
theorem box_kept1 {wr w2 : World} {cs : Array Value} {t : TypeId} (hb : Below (wr.alloc (.cells cs t)).drew.heap.size (wr.alloc (.cells cs t)).drew w2) : Below wr.heap.size wr w2 ∧ Bx w2 wr.heap.size cs.toList ∧ wr.heap.size + 1 ≤ w2.heap.size :=
  ⟨((Below.refl _ wr).alloc (Nat.le_refl _) _).drew.trans (hb.mono (by simp)), (Bx.later (w := (wr.alloc (.cells cs t)).drew) (bx_fresh wr wr.heap.size cs t rfl) hb (by simp)), by have := hb.size; simp at this; omega⟩
theorem box_kept2 {wr w2 : World} {cs ds : Array Value} {t u : TypeId} (hb : Below ((wr.alloc (.cells cs t)).alloc (.cells ds u)).drew.heap.size ((wr.alloc (.cells cs t)).alloc (.cells ds u)).drew w2) : Below wr.heap.size wr w2 ∧ Bx w2 wr.heap.size cs.toList ∧ Bx w2 (wr.heap.size + 1) ds.toList ∧ wr.heap.size + 1 + 1 ≤ w2.heap.size :=
  ⟨(((Below.refl _ wr).alloc (Nat.le_refl _) _).alloc (by simp) _).drew.trans (hb.mono (by simp; omega)), (Bx.later (w := ((wr.alloc (.cells cs t)).alloc (.cells ds u)).drew) ((bx_fresh wr wr.heap.size cs t rfl).alloc _) hb (by simp; omega)), (Bx.later (w := ((wr.alloc (.cells cs t)).alloc (.cells ds u)).drew) (bx_fresh (wr.alloc (.cells cs t)) (wr.heap.size + 1) ds u (by simp)) hb (by simp)), by have := hb.size; simp at this; omega⟩
end Go.Proofs.Ytmadpjmlcooinaa
