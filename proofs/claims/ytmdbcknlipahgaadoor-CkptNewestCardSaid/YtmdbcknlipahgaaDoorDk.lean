/- Files as cells: a disk that may be read; one of the call's own. -/
import Derived.Test.YtmdbcknlipahgaaDoorPDisk
import Derived.Test.YtmdbcknlipahgaaDoorBoxed
namespace Go.Proofs.YtmdbcknlipahgaaDoor
open Go.RowKit
def flC (f : Fl) (v : Value) : List Value := [.string f.nm, v, .int .i64 (f.sy : Int)]
def dkC (l : List (Fl × Value)) : List Value := l.flatMap fun x => flC x.1 x.2
theorem dkC_len (l : List (Fl × Value)) : (dkC l).length = l.length * 3 := by
  induction l with
  | nil => rfl
  | cons a l ih => show (flC _ _ ++ dkC l).length = _; rw [List.length_append, ih, List.length_cons]; simp [flC]; omega
theorem dkC_at {l : List (Fl × Value)} {i : Nat} (h : i < l.length) : ∀ k u, (flC l[i].1 l[i].2)[k]? = some u → (dkC l)[i * 3 + k]? = some u := by
  induction l generalizing i with
  | nil => simp at h
  | cons a l ih =>
    intro k u hu
    cases i with
    | zero =>
      rw [Nat.zero_mul, Nat.zero_add]
      show (flC _ _ ++ dkC l)[k]? = _
      rw [List.getElem?_append_left (by have := (List.getElem?_eq_some_iff.1 hu).1; exact this)]; exact hu
    | succ i =>
      show (flC _ _ ++ dkC l)[(i + 1) * 3 + k]? = _
      have h7 : (flC a.1 a.2).length = 3 := rfl
      rw [List.getElem?_append_right (by rw [h7]; omega), h7, show (i + 1) * 3 + k - 3 = i * 3 + k by omega]
      exact ih (by simpa using h) k u hu
theorem dkC_append (l m : List (Fl × Value)) : dkC (l ++ m) = dkC l ++ dkC m := by simp [dkC]
/-- a slice that may be read, and lies from block B on -/
def RdB (w : World) (B size : Nat) (v : Value) (n : Nat) (xs : List Value) : Prop := Sl w size v n xs ∧ ∀ k, v.ownBlock = some k → B ≤ k
theorem RdB.later {w w' : World} {B size n : Nat} {v : Value} {xs : List Value} (h : RdB w B size v n xs) (hb : Below w.heap.size w w') : RdB w' B size v n xs := ⟨h.1.later hb, h.2⟩
theorem RdB.mono {w : World} {B B' size n : Nat} {v : Value} {xs : List Value} (h : RdB w B size v n xs) (hb : B' ≤ B) : RdB w B' size v n xs := ⟨h.1, fun k hk => Nat.le_trans hb (h.2 k hk)⟩
theorem RdB.setCell {w : World} {B size n : Nat} {v : Value} {xs : List Value} (h : RdB w B size v n xs) {a : Addr} (ha : a.block < B) (u : Value) : RdB (w.setCell a u) B size v n xs := by
  obtain ⟨⟨p, c, rfl, h1, h2, h3, h4, h5⟩, h6⟩ := h
  refine ⟨⟨p, c, rfl, h1, h2, h3, h4, ?_⟩, h6⟩
  rcases h5 with h5 | ⟨b, off, rfl, h5⟩
  · exact .inl h5
  · refine .inr ⟨b, off, rfl, fun j u' hj => ?_⟩
    have hB := h6 b rfl
    have hne : b ≠ a.block := by omega
    rw [← h5 j u' hj]
    exact World.cell?_setCell_other w a _ u (fun e => hne (by rw [e]))
structure RDk (w : World) (B : Nat) (v : Value) (l : List (Fl × Value)) : Prop where
  outer : RdB w B 3 v l.length (dkC l)
  inn : ∀ x ∈ l, RdB w B 1 x.2 x.1.dt.length (bys x.1.dt)
theorem RDk.later {w w' : World} {B : Nat} {v : Value} {l : List (Fl × Value)} (h : RDk w B v l) (hb : Below w.heap.size w w') : RDk w' B v l := ⟨h.outer.later hb, fun x hx => (h.inn x hx).later hb⟩
theorem RDk.mono {w : World} {B B' : Nat} {v : Value} {l : List (Fl × Value)} (h : RDk w B v l) (hb : B' ≤ B) : RDk w B' v l := ⟨h.outer.mono hb, fun x hx => (h.inn x hx).mono hb⟩
theorem RDk.setCell {w : World} {B : Nat} {v : Value} {l : List (Fl × Value)} (h : RDk w B v l) {a : Addr} (ha : a.block < B) (u : Value) : RDk (w.setCell a u) B v l := ⟨h.outer.setCell ha u, fun x hx => (h.inn x hx).setCell ha u⟩
theorem RDk.nil (w : World) (B : Nat) : RDk w B (.slice none 0 0) [] := ⟨⟨⟨none, 0, rfl, Nat.le_refl _, by decide, rfl, fun _ => rfl, .inl rfl⟩, fun k hk => by cases hk⟩, fun x hx => by cases hx⟩
theorem RDk.val {w : World} {B : Nat} {v : Value} {l : List (Fl × Value)} (h : RDk w B v l) : ∃ p c, v = .slice p l.length c ∧ l.length ≤ c ∧ c ≤ 9223372036854775807 := by
  obtain ⟨⟨p, c, rfl, h1, h2, _⟩, _⟩ := h.outer
  exact ⟨p, c, rfl, h1, by unfold maxLen at h2; omega⟩
/-- a file's cells -/
theorem RDk.get {w : World} {B : Nat} {p : Option Addr} {n c : Nat} {l : List (Fl × Value)} (h : RDk w B (.slice p n c) l) {i : Nat} (hi : i < l.length) :
    ∃ b off, p = some ⟨b, off, none⟩ ∧ w.cell? ⟨b, off + i * 3, none⟩ = some (.string l[i].1.nm) ∧ w.cell? ⟨b, off + i * 3 + 1, none⟩ = some l[i].2 ∧ w.cell? ⟨b, off + i * 3 + 2, none⟩ = some (.int .i64 (l[i].1.sy : Int)) ∧ RdB w B 1 l[i].2 l[i].1.dt.length (bys l[i].1.dt) := by
  have hn : n = l.length := by obtain ⟨⟨p', c', he, _⟩, _⟩ := h.outer; cases he; rfl
  subst hn
  have hat := dkC_at hi
  obtain ⟨b, off, rfl, h0⟩ := h.outer.1.get (hat 0 _ rfl)
  obtain ⟨b', off', he, h1⟩ := h.outer.1.get (hat 1 _ rfl)
  cases he
  obtain ⟨b', off', he, h2⟩ := h.outer.1.get (hat 2 _ rfl)
  cases he
  exact ⟨b, off, rfl, h0, by rw [Nat.add_assoc]; exact h1, by rw [Nat.add_assoc]; exact h2, h.inn _ (List.getElem_mem hi)⟩
theorem RdB.val {w : World} {B size n : Nat} {v : Value} {xs : List Value} (h : RdB w B size v n xs) : ∃ p c, v = .slice p n c ∧ n ≤ c ∧ c ≤ 9223372036854775807 := by
  obtain ⟨⟨p, c, rfl, h1, h2, _⟩, _⟩ := h
  exact ⟨p, c, rfl, h1, by unfold maxLen at h2; omega⟩
theorem RdB.of_own {w : World} {B size n : Nat} {e : TypeId} {v : Value} {xs : List Value} (h : w.ownsRow B e size v n xs) : RdB w B size v n xs := ⟨Sl.of_own h, fun k hk => (h.lt k hk).1⟩
/-- a disk of the call's own -/
structure OwnDk (w : World) (B : Nat) (v : Value) (l : List (Fl × Value)) : Prop where
  outer : w.ownsRow B 121 3 v l.length (dkC l)
  inn : ∀ x ∈ l, w.ownsRow B 5 1 x.2 x.1.dt.length (bys x.1.dt)
  ap : ∀ x ∈ l, ∀ k, x.2.ownBlock = some k → v.ownBlock ≠ some k
  pw : l.Pairwise fun x y => ∀ k, x.2.ownBlock = some k → y.2.ownBlock ≠ some k
theorem OwnDk.rd {w : World} {B : Nat} {v : Value} {l : List (Fl × Value)} (h : OwnDk w B v l) : RDk w B v l := ⟨.of_own h.outer, fun x hx => .of_own (h.inn x hx)⟩
theorem OwnDk.nil (w : World) (B : Nat) : OwnDk w B (.slice none 0 0) [] := ⟨World.ownsRow_nil _ _ _ _, fun x h => by simp at h, fun x h => by simp at h, List.Pairwise.nil⟩
theorem OwnDk.later {w w' : World} {B : Nat} {v : Value} {l : List (Fl × Value)} (h : OwnDk w B v l) (hb : Below w.heap.size w w') : OwnDk w' B v l :=
  ⟨own_later h.outer hb, fun x hx => own_later (h.inn x hx) hb, h.ap, h.pw⟩
theorem OwnDk.setCell {w : World} {B : Nat} {v : Value} {l : List (Fl × Value)} (h : OwnDk w B v l) {a : Addr} (ha : a.block < B) (u : Value) : OwnDk (w.setCell a u) B v l :=
  ⟨own_setCell h.outer ha u, fun x hx => own_setCell (h.inn x hx) ha u, h.ap, h.pw⟩
theorem OwnDk.mono {w : World} {B B' : Nat} {v : Value} {l : List (Fl × Value)} (h : OwnDk w B v l) (hb : B' ≤ B) : OwnDk w B' v l :=
  ⟨own_mono h.outer hb, fun x hx => own_mono (h.inn x hx) hb, h.ap, h.pw⟩
/-- one more file -/
theorem OwnDk.push {w w3 : World} {B : Nat} {v v' s : Value} {f : Fl} {l : List (Fl × Value)} (h : OwnDk w B v l) (hg : w.grownBy w3 v.ownBlock)
    (hs : w.ownsRow B 5 1 s f.dt.length (bys f.dt)) (hfs : ∀ k, s.ownBlock = some k → v.ownBlock ≠ some k) (hfl : ∀ x ∈ l, ∀ k, x.2.ownBlock = some k → s.ownBlock ≠ some k)
    (hown : w3.ownsRow B 121 3 v' (l.length + 1) (dkC l ++ flC f s)) (hb : v'.ownBlock = v.ownBlock ∨ ∃ k, w.heap.size ≤ k ∧ v'.ownBlock = some k) :
    OwnDk w3 B v' (l ++ [(f, s)]) := by
  have hnew : ∀ (z : Value) (k : Nat), z.ownBlock = some k → k < w.heap.size → v.ownBlock ≠ some k → v'.ownBlock ≠ some k := fun z k hz hk hne e => by
    rcases hb with hb | ⟨k', h1, h2⟩
    · exact hne (hb.symm.trans e)
    · rw [h2] at e; cases e; omega
  refine ⟨by rw [dkC_append, List.length_append]; simpa [dkC] using hown, fun x hx => ?_, fun x hx k hk => ?_, ?_⟩
  · rcases List.mem_append.1 hx with hx | hx
    · exact own_grown (h.inn x hx) hg (fun k hk => h.ap x hx k hk)
    · rw [List.mem_singleton.1 hx]; exact own_grown hs hg hfs
  · rcases List.mem_append.1 hx with hx | hx
    · exact hnew _ k hk ((h.inn x hx).lt k hk).2 (h.ap x hx k hk)
    · rw [List.mem_singleton.1 hx] at hk; exact hnew _ k hk (hs.lt k hk).2 (hfs k hk)
  · rw [List.pairwise_append]
    refine ⟨h.pw, List.pairwise_singleton _ _, fun x hx y hy k hk => ?_⟩
    rw [List.mem_singleton.1 hy]
    exact hfl x hx k hk
end Go.Proofs.YtmdbcknlipahgaaDoor
