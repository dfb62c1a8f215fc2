/- States of a job as cells. -/
import Derived.Test.YtiaflhlfodcbjaaBoxed
import Derived.Deep.LoopGhost
import Derived.Deep.DeepCutAuto
import Derived.IntWalk
import Derived.Test.YtiaflhlfodcbjaaPRnd
import Derived.Test.YtiaflhlfodcbjaaRowsI
import Derived.Test.YtiaflhlfodcbjaaEdge
namespace Go.Proofs.Ytiaflhlfodcbjaa
open Go.RowKit
theorem Bx.one' {w : World} {g : Nat} {a : Value} (h : Bx w g [a]) : w.cell? ⟨g, 0, none⟩ = some a ∧ w.frozen? ⟨g, 0, none⟩ = false := by
  have h1 := h.one
  obtain ⟨t, h⟩ := h
  exact ⟨h1, frozen_of_row w g 0 _ _ h⟩
theorem Bx.at {w : World} {g i : Nat} {cs : List Value} {u : Value} (h : Bx w g cs) (hi : cs[i]? = some u) : w.cell? ⟨g, i, none⟩ = some u ∧ w.frozen? ⟨g, i, none⟩ = false := by
  obtain ⟨t, h⟩ := h
  refine ⟨?_, frozen_of_row w g i _ _ h⟩
  rw [cell_of_row w g i _ _ _ h]
  simpa using hi
theorem Bx.five {w : World} {g : Nat} {a b c d e : Value} (h : Bx w g [a, b, c, d, e]) :
    w.cell? ⟨g, 0, none⟩ = some a ∧ w.cell? ⟨g, 1, none⟩ = some b ∧ w.cell? ⟨g, 2, none⟩ = some c ∧ w.cell? ⟨g, 3, none⟩ = some d ∧ w.cell? ⟨g, 4, none⟩ = some e :=
  ⟨(h.at rfl).1, (h.at rfl).1, (h.at rfl).1, (h.at rfl).1, (h.at rfl).1⟩
theorem Bx.fiveF {w : World} {g : Nat} {a b c d e : Value} (h : Bx w g [a, b, c, d, e]) :
    w.frozen? ⟨g, 0, none⟩ = false ∧ w.frozen? ⟨g, 1, none⟩ = false ∧ w.frozen? ⟨g, 2, none⟩ = false ∧ w.frozen? ⟨g, 3, none⟩ = false ∧ w.frozen? ⟨g, 4, none⟩ = false := by
  obtain ⟨t, h⟩ := h
  exact ⟨frozen_of_row w g 0 _ _ h, frozen_of_row w g 1 _ _ h, frozen_of_row w g 2 _ _ h, frozen_of_row w g 3 _ _ h, frozen_of_row w g 4 _ _ h⟩
theorem grown_of_belowO {w w' : World} {o : Option Nat} (hb : Below w.heap.size w w') : w.grownBy w' o :=
  ⟨hb.os, hb.tape, hb.output, hb.size, fun k hk _ => hb.block k hk⟩
theorem sl_grownO {w w' : World} {size : Nat} {v : Value} {n : Nat} {xs : List Value} {o : Option Nat} (h : Sl w size v n xs) (hg : w.grownBy w' o) (ho : ∀ b off, v = .slice (some ⟨b, off, none⟩) n (match v with | .slice _ _ c => c | _ => 0) → o ≠ some b) : Sl w' size v n xs := by
  obtain ⟨p, cap, rfl, h1, h2, h3, h4, h5⟩ := h
  refine ⟨p, cap, rfl, h1, h2, h3, h4, ?_⟩
  rcases h5 with h5 | ⟨b, off, rfl, h5⟩
  · exact .inl h5
  · exact .inr ⟨b, off, rfl, fun j u hj => by rw [World.cell?_of_block (hg.block b (World.block_lt_of_cell? w _ (h5 j u hj)) (fun e => ho b off rfl e.symm))]; exact h5 j u hj⟩
end Go.Proofs.Ytiaflhlfodcbjaa
namespace Go.Proofs.Ytiaflhlfodcbjaa
open Go.RowKit
/-- a slice that may be read, and lies from block B on -/
def RdB (w : World) (B size : Nat) (v : Value) (n : Nat) (xs : List Value) : Prop := Sl w size v n xs ∧ ∀ k, v.ownBlock = some k → B ≤ k
theorem RdB.later {w w' : World} {B size n : Nat} {v : Value} {xs : List Value} (h : RdB w B size v n xs) (hb : Below w.heap.size w w') : RdB w' B size v n xs := ⟨h.1.later hb, h.2⟩
theorem RdB.mono {w : World} {B B' size n : Nat} {v : Value} {xs : List Value} (h : RdB w B size v n xs) (hb : B' ≤ B) : RdB w B' size v n xs := ⟨h.1, fun k hk => Nat.le_trans hb (h.2 k hk)⟩
theorem RdB.setCell {w : World} {B size n : Nat} {v : Value} {xs : List Value} (h : RdB w B size v n xs) {a : Addr} (ha : a.block < B) (u : Value) : RdB (w.setCell a u) B size v n xs := by
  obtain ⟨⟨p, c, rfl, h1, h2, h3, h4, h5⟩, h6⟩ := h
  refine ⟨⟨p, c, rfl, h1, h2, h3, h4, ?_⟩, h6⟩
  rcases h5 with h5 | ⟨b, off, rfl, h5⟩
  · exact .inl h5
  · refine .inr ⟨b, off, rfl, fun j u' hj => ?_⟩
    have hB := h6 b rfl
    have hne : b ≠ a.block := by omega
    rw [← h5 j u' hj]
    exact World.cell?_setCell_other w a _ u (fun e => hne (by rw [e]))
theorem RdB.val {w : World} {B size n : Nat} {v : Value} {xs : List Value} (h : RdB w B size v n xs) : ∃ p c, v = .slice p n c ∧ n ≤ c ∧ c ≤ 9223372036854775807 := by
  obtain ⟨⟨p, c, rfl, h1, h2, _⟩, _⟩ := h
  exact ⟨p, c, rfl, h1, by unfold maxLen at h2; omega⟩
theorem RdB.of_own {w : World} {B size n : Nat} {e : TypeId} {v : Value} {xs : List Value} (h : w.ownsRow B e size v n xs) : RdB w B size v n xs := ⟨Sl.of_own h, fun k hk => (h.lt k hk).1⟩
end Go.Proofs.Ytiaflhlfodcbjaa
namespace Go.Proofs.Ytiaflhlfodcbjaa
open Go.RowKit
/-- values of vertices as cells -/
def vlC (l : List (Int × Int)) : List Value := l.flatMap fun x => [Value.int .i64 x.1, Value.int .i64 x.2]
theorem vlC_snoc (l : List (Int × Int)) (m : Int × Int) : vlC (l ++ [m]) = vlC l ++ [Value.int .i64 m.1, Value.int .i64 m.2] := by simp [vlC]
theorem vlC_len : ∀ (l : List (Int × Int)), (vlC l).length = l.length * 2
  | [] => rfl
  | m :: l => by
    have := vlC_len l
    show ([Value.int .i64 m.1, Value.int .i64 m.2] ++ vlC l).length = _
    rw [List.length_append, this, List.length_cons]; simp; omega
theorem vlC_one (l : List (Int × Int)) : ∀ u ∈ vlC l, u.oneCell' = true := by
  intro u hu
  unfold vlC at hu
  obtain ⟨m, _, h⟩ := List.mem_flatMap.1 hu
  simp at h
  rcases h with rfl | rfl <;> rfl
theorem vlC_at {l : List (Int × Int)} {i : Nat} (h : i < l.length) : (vlC l)[i * 2]? = some (.int .i64 l[i].1) ∧ (vlC l)[i * 2 + 1]? = some (.int .i64 l[i].2) := by
  induction l generalizing i with
  | nil => simp at h
  | cons a l ih =>
    have h2 : vlC (a :: l) = [Value.int .i64 a.1, Value.int .i64 a.2] ++ vlC l := rfl
    cases i with
    | zero => rw [h2]; exact ⟨rfl, rfl⟩
    | succ i =>
      have := ih (i := i) (by simpa using h)
      rw [h2, List.getElem?_append_right (by simp; omega), List.getElem?_append_right (by simp; omega)]
      simp only [List.length_cons, List.length_nil, List.getElem_cons_succ]
      rw [show (i + 1) * 2 - (0 + 1 + 1) = i * 2 by omega, show (i + 1) * 2 + 1 - (0 + 1 + 1) = i * 2 + 1 by omega]
      exact this
theorem Sl.vl {w : World} {p : Option Addr} {c n : Nat} {l : List (Int × Int)} (h : Sl w 2 (.slice p n c) n (vlC l)) {i : Nat} (hi : i < l.length) : ∃ b off, p = some ⟨b, off, none⟩ ∧ w.cell? ⟨b, off + i * 2, none⟩ = some (.int .i64 l[i].1) ∧ w.cell? ⟨b, off + i * 2 + 1, none⟩ = some (.int .i64 l[i].2) := by
  obtain ⟨h1, h2⟩ := vlC_at hi
  obtain ⟨b, off, rfl, hc1⟩ := h.get h1
  obtain ⟨b', off', he, hc2⟩ := h.get h2
  cases he
  exact ⟨b, off, rfl, hc1, hc2⟩
/-- rows of integers that may be read -/
def RdRows (w : World) (B N : Nat) (v : Value) (R : List (List Int)) : Prop :=
  ∃ us : List Value, us.length = N ∧ R.length = N ∧ RdB w B 1 v N us ∧ ∀ (i : Nat) (r : List Int) (u : Value), R[i]? = some r → us[i]? = some u → RdB w B 1 u r.length (its r)
theorem RdRows.later {w w' : World} {B N : Nat} {v : Value} {R : List (List Int)} (h : RdRows w B N v R) (hb : Below w.heap.size w w') : RdRows w' B N v R := by
  obtain ⟨us, h1, h2, h3, h4⟩ := h
  exact ⟨us, h1, h2, h3.later hb, fun i r u hr hu => (h4 i r u hr hu).later hb⟩
theorem RdRows.mono {w : World} {B B' N : Nat} {v : Value} {R : List (List Int)} (h : RdRows w B N v R) (hb : B' ≤ B) : RdRows w B' N v R := by
  obtain ⟨us, h1, h2, h3, h4⟩ := h
  exact ⟨us, h1, h2, h3.mono hb, fun i r u hr hu => (h4 i r u hr hu).mono hb⟩
theorem RdRows.setCell {w : World} {B N : Nat} {v : Value} {R : List (List Int)} (h : RdRows w B N v R) {a : Addr} (ha : a.block < B) (x : Value) : RdRows (w.setCell a x) B N v R := by
  obtain ⟨us, h1, h2, h3, h4⟩ := h
  exact ⟨us, h1, h2, h3.setCell ha x, fun i r u hr hu => (h4 i r u hr hu).setCell ha x⟩
theorem RdRows.get {w : World} {B N c : Nat} {p : Option Addr} {R : List (List Int)} (h : RdRows w B N (.slice p N c) R) {i : Nat} {r : List Int} (hr : R[i]? = some r) : ∃ b off q d, p = some ⟨b, off, none⟩ ∧ w.cell? ⟨b, off + i, none⟩ = some (.slice q r.length d) ∧ RdB w B 1 (.slice q r.length d) r.length (its r) := by
  obtain ⟨us, h1, h2, h3, h4⟩ := h
  have hi : i < us.length := by rw [h1, ← h2]; exact (List.getElem?_eq_some_iff.1 hr).1
  have hu := List.getElem?_eq_getElem hi
  have h5 := h4 i r _ hr hu
  obtain ⟨q, d, e, -⟩ := h5.val
  rw [e] at h5 hu
  obtain ⟨b, off, rfl, hc⟩ := h3.1.get hu
  exact ⟨b, off, q, d, rfl, hc, h5⟩
/-- a state that may be read -/
def RdSt (w : World) (B N : Nat) (v : Value) (s : RSt) : Prop :=
  ∃ (pv pm : Option Addr) (cv cm : Nat), v = .agg #[.int .i64 (s.step : Int), .int .i64 (s.phase : Int), .bool s.fresh, .bool s.done, .slice pv N cv, .slice pm N cm] ∧ RdB w B 2 (.slice pv N cv) N (vlC s.vals) ∧ RdRows w B N (.slice pm N cm) s.mail ∧ s.vals.length = N
theorem RdSt.later {w w' : World} {B N : Nat} {v : Value} {s : RSt} (h : RdSt w B N v s) (hb : Below w.heap.size w w') : RdSt w' B N v s := by
  obtain ⟨pv, pm, cv, cm, rfl, h1, h2, h3⟩ := h
  exact ⟨pv, pm, cv, cm, rfl, h1.later hb, h2.later hb, h3⟩
theorem RdSt.mono {w : World} {B B' N : Nat} {v : Value} {s : RSt} (h : RdSt w B N v s) (hb : B' ≤ B) : RdSt w B' N v s := by
  obtain ⟨pv, pm, cv, cm, rfl, h1, h2, h3⟩ := h
  exact ⟨pv, pm, cv, cm, rfl, h1.mono hb, h2.mono hb, h3⟩
theorem RdSt.setCell {w : World} {B N : Nat} {v : Value} {s : RSt} (h : RdSt w B N v s) {a : Addr} (ha : a.block < B) (x : Value) : RdSt (w.setCell a x) B N v s := by
  obtain ⟨pv, pm, cv, cm, rfl, h1, h2, h3⟩ := h
  exact ⟨pv, pm, cv, cm, rfl, h1.setCell ha x, h2.setCell ha x, h3⟩
theorem Bx.six {w : World} {g : Nat} {a b c d e f : Value} (h : Bx w g [a, b, c, d, e, f]) :
    w.cell? ⟨g, 0, none⟩ = some a ∧ w.cell? ⟨g, 1, none⟩ = some b ∧ w.cell? ⟨g, 2, none⟩ = some c ∧ w.cell? ⟨g, 3, none⟩ = some d ∧ w.cell? ⟨g, 4, none⟩ = some e ∧ w.cell? ⟨g, 5, none⟩ = some f :=
  ⟨(h.at rfl).1, (h.at rfl).1, (h.at rfl).1, (h.at rfl).1, (h.at rfl).1, (h.at rfl).1⟩
theorem Bx.sixF {w : World} {g : Nat} {a b c d e f : Value} (h : Bx w g [a, b, c, d, e, f]) :
    w.frozen? ⟨g, 0, none⟩ = false ∧ w.frozen? ⟨g, 1, none⟩ = false ∧ w.frozen? ⟨g, 2, none⟩ = false ∧ w.frozen? ⟨g, 3, none⟩ = false ∧ w.frozen? ⟨g, 4, none⟩ = false ∧ w.frozen? ⟨g, 5, none⟩ = false :=
  ⟨(h.at (i := 0) rfl).2, (h.at (i := 1) rfl).2, (h.at (i := 2) rfl).2, (h.at (i := 3) rfl).2, (h.at (i := 4) rfl).2, (h.at (i := 5) rfl).2⟩
theorem RdSt.set6 {w : World} {B N g : Nat} {v : Value} {s : RSt} (h : RdSt w B N v s) (hg : g < B) (a b c d e f : Value) : RdSt ((((((w.setCell ⟨g, 0, none⟩ a).setCell ⟨g, 1, none⟩ b).setCell ⟨g, 2, none⟩ c).setCell ⟨g, 3, none⟩ d).setCell ⟨g, 4, none⟩ e).setCell ⟨g, 5, none⟩ f) B N v s :=
  (((((h.setCell (a := ⟨g, 0, none⟩) hg a).setCell (a := ⟨g, 1, none⟩) hg b).setCell (a := ⟨g, 2, none⟩) hg c).setCell (a := ⟨g, 3, none⟩) hg d).setCell (a := ⟨g, 4, none⟩) hg e).setCell (a := ⟨g, 5, none⟩) hg f
theorem setc6 {w : World} {g B : Nat} {u0 : World} (hb : Below B u0 w) (hB : B ≤ g) (a b c d e f : Value) : Below B u0 ((((((w.setCell ⟨g, 0, none⟩ a).setCell ⟨g, 1, none⟩ b).setCell ⟨g, 2, none⟩ c).setCell ⟨g, 3, none⟩ d).setCell ⟨g, 4, none⟩ e).setCell ⟨g, 5, none⟩ f) :=
  (((((hb.setCell (p := ⟨g, 0, none⟩) hB a).setCell (p := ⟨g, 1, none⟩) hB b).setCell (p := ⟨g, 2, none⟩) hB c).setCell (p := ⟨g, 3, none⟩) hB d).setCell (p := ⟨g, 4, none⟩) hB e).setCell (p := ⟨g, 5, none⟩) hB f
/-- rows of the call's own may be read -/
theorem OwnN.rd {w : World} {B g I N : Nat} {R : List (List Int)} {vs : List Value} (h : OwnN w B g I N R vs) {B' : Nat} (hB : B' ≤ B) (hg : B' ≤ I) : RdRows w B' N (.slice (some ⟨g, 0, none⟩) N N) R :=
  ⟨vs, h.vlen, h.len, (RdB.of_own h.outer).mono hB, fun i r u hr hu => (RdB.of_own (h.inner i r u hr hu)).mono hg⟩
theorem inf_ints : (Try.prog.info? 38).map (fun i => (i.zero, i.size, i.bytes)) = some (some (.slice none 0 0), 1, 24) := by kernel_rfl
theorem inf_vl : (Try.prog.info? 40).map (fun i => (i.zero, i.size, i.bytes)) = some (some (.agg #[.int .i64 0, .int .i64 0]), 2, 16) := by kernel_rfl
/-- a job's value -/
def jobV (p : Option Addr) (c n N : Nat) (kind : Nat) (src : Int) : Value := .agg #[.int .i64 (N : Int), .slice p n c, .int .i64 (kind : Int), .int .i64 src]
/-- a job that may be read, and is right -/
structure JobOk (w : World) (p : Option Addr) (c n N kind : Nat) (src : Int) (E : List Eg) : Prop where
  sl : Sl w 3 (.slice p n c) n (ecs E)
  g : InG N E
  N1 : 1 ≤ N
  N10 : N ≤ 10
  n20 : n ≤ 20
  k1 : 1 ≤ kind
  k3 : kind ≤ 3
  s0 : 0 ≤ src
  sN : src < (N : Int)
theorem JobOk.later {w w' : World} {p : Option Addr} {c n N kind : Nat} {src : Int} {E : List Eg} (h : JobOk w p c n N kind src E) (hb : Below w.heap.size w w') : JobOk w' p c n N kind src E := { h with sl := h.sl.later hb }
end Go.Proofs.Ytiaflhlfodcbjaa
