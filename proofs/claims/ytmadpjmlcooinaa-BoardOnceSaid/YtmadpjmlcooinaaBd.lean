/- Reports as cells: a board that may be read. -/
import Derived.Test.YtmadpjmlcooinaaPBoard
import Derived.Test.YtmadpjmlcooinaaBoxed
namespace Go.Proofs.Ytmadpjmlcooinaa
open Go.RowKit
def rpC (r : Rp) (s g : Value) : List Value := [.int .i64 (r.wk : Int), .int .i64 (r.ep : Int), .int .i64 (r.st : Int), s, g, .int .i64 (r.wa : Int), .int .i64 (r.op : Int)]
/-- a report's lists may be read -/
def RpV (w : World) (r : Rp) (s g : Value) : Prop := Sl w 1 s r.sent.length (nts r.sent) ∧ Sl w 1 g r.got.length (nts r.got)
theorem RpV.later {w w' : World} {r : Rp} {s g : Value} (h : RpV w r s g) (hb : Below w.heap.size w w') : RpV w' r s g := ⟨h.1.later hb, h.2.later hb⟩
def bdC (l : List (Rp × Value × Value)) : List Value := l.flatMap fun x => rpC x.1 x.2.1 x.2.2
theorem bdC_len (l : List (Rp × Value × Value)) : (bdC l).length = l.length * 7 := by
  induction l with
  | nil => rfl
  | cons a l ih => show (rpC _ _ _ ++ bdC l).length = _; rw [List.length_append, ih, List.length_cons]; simp [rpC]; omega
theorem bdC_at {l : List (Rp × Value × Value)} {i : Nat} (h : i < l.length) : ∀ k u, (rpC l[i].1 l[i].2.1 l[i].2.2)[k]? = some u → (bdC l)[i * 7 + k]? = some u := by
  induction l generalizing i with
  | nil => simp at h
  | cons a l ih =>
    intro k u hu
    cases i with
    | zero =>
      rw [Nat.zero_mul, Nat.zero_add]
      show (rpC _ _ _ ++ bdC l)[k]? = _
      rw [List.getElem?_append_left (by have := (List.getElem?_eq_some_iff.1 hu).1; exact this)]; exact hu
    | succ i =>
      show (rpC _ _ _ ++ bdC l)[(i + 1) * 7 + k]? = _
      have h7 : (rpC a.1 a.2.1 a.2.2).length = 7 := rfl
      rw [List.getElem?_append_right (by rw [h7]; omega), h7, show (i + 1) * 7 + k - 7 = i * 7 + k by omega]
      exact ih (by simpa using h) k u hu
/-- reports that may be read -/
def IsBd (w : World) (v : Value) (rs : List Rp) : Prop :=
  ∃ l : List (Rp × Value × Value), l.map (·.1) = rs ∧ Sl w 7 v rs.length (bdC l) ∧ ∀ x ∈ l, RpV w x.1 x.2.1 x.2.2
theorem IsBd.later {w w' : World} {v : Value} {rs : List Rp} (h : IsBd w v rs) (hb : Below w.heap.size w w') : IsBd w' v rs := by
  obtain ⟨l, h1, h2, h3⟩ := h
  exact ⟨l, h1, h2.later hb, fun x hx => (h3 x hx).later hb⟩
theorem IsBd.val {w : World} {v : Value} {rs : List Rp} (h : IsBd w v rs) : ∃ p c, v = .slice p rs.length c ∧ rs.length ≤ c ∧ c ≤ 9223372036854775807 := by
  obtain ⟨l, _, ⟨p, c, rfl, h1, h2, _⟩, _⟩ := h
  exact ⟨p, c, rfl, h1, by unfold maxLen at h2; omega⟩
/-- a report of a board: its cells -/
theorem IsBd.get {w : World} {p : Option Addr} {c n : Nat} {rs : List Rp} (h : IsBd w (.slice p n c) rs) {i : Nat} (hi : i < rs.length) :
    ∃ b off s g, p = some ⟨b, off, none⟩ ∧ (∀ k u, (rpC rs[i] s g)[k]? = some u → w.cell? ⟨b, off + i * 7 + k, none⟩ = some u) ∧ RpV w rs[i] s g := by
  obtain ⟨l, rfl, h2, h3⟩ := h
  have hil : i < l.length := by simpa using hi
  have hn : n = (l.map (·.1)).length := by obtain ⟨p', c', he, _⟩ := h2; cases he; rfl
  subst hn
  have hat := bdC_at hil
  obtain ⟨b, off, rfl, _⟩ := h2.get (hat 0 _ rfl)
  refine ⟨b, off, l[i].2.1, l[i].2.2, rfl, fun k u hu => ?_, ?_⟩
  · rw [List.getElem_map] at hu
    obtain ⟨b', off', he, h5⟩ := h2.get (hat k u hu)
    cases he
    rw [Nat.add_assoc]; exact h5
  · rw [List.getElem_map]; exact h3 _ (List.getElem_mem hil)
/-- reports of the call's own -/
structure OwnBd (w : World) (B : Nat) (v : Value) (n : Nat) (l : List (Rp × Value × Value)) : Prop where
  outer : w.ownsRow B 61 7 v n (bdC l)
  inS : ∀ x ∈ l, w.ownsRow B 3 1 x.2.1 x.1.sent.length (nts x.1.sent)
  inG : ∀ x ∈ l, w.ownsRow B 3 1 x.2.2 x.1.got.length (nts x.1.got)
  apS : ∀ x ∈ l, ∀ k, x.2.1.ownBlock = some k → v.ownBlock ≠ some k
  apG : ∀ x ∈ l, ∀ k, x.2.2.ownBlock = some k → v.ownBlock ≠ some k
theorem OwnBd.nil (w : World) (B : Nat) : OwnBd w B (.slice none 0 0) 0 [] :=
  ⟨World.ownsRow_nil _ _ _ _, fun x h => by simp at h, fun x h => by simp at h, fun x h => by simp at h, fun x h => by simp at h⟩
theorem OwnBd.len {w : World} {B : Nat} {v : Value} {n : Nat} {l : List (Rp × Value × Value)} (h : OwnBd w B v n l) : l.length = n := by
  have := h.outer.1; rw [bdC_len] at this; omega
theorem OwnBd.later {w w' : World} {B : Nat} {v : Value} {n : Nat} {l : List (Rp × Value × Value)} (h : OwnBd w B v n l) (hb : Below w.heap.size w w') : OwnBd w' B v n l :=
  ⟨own_later h.outer hb, fun x hx => own_later (h.inS x hx) hb, fun x hx => own_later (h.inG x hx) hb, h.apS, h.apG⟩
theorem OwnBd.drew {w : World} {B : Nat} {v : Value} {n : Nat} {l : List (Rp × Value × Value)} (h : OwnBd w B v n l) : OwnBd w.drew B v n l :=
  ⟨own_drew h.outer, fun x hx => own_drew (h.inS x hx), fun x hx => own_drew (h.inG x hx), h.apS, h.apG⟩
theorem OwnBd.setCell {w : World} {B : Nat} {v : Value} {n : Nat} {l : List (Rp × Value × Value)} (h : OwnBd w B v n l) {a : Addr} (ha : a.block < B) (u : Value) : OwnBd (w.setCell a u) B v n l :=
  ⟨own_setCell h.outer ha u, fun x hx => own_setCell (h.inS x hx) ha u, fun x hx => own_setCell (h.inG x hx) ha u, h.apS, h.apG⟩
theorem OwnBd.mono {w : World} {B B' : Nat} {v : Value} {n : Nat} {l : List (Rp × Value × Value)} (h : OwnBd w B v n l) (hb : B' ≤ B) : OwnBd w B' v n l :=
  ⟨own_mono h.outer hb, fun x hx => own_mono (h.inS x hx) hb, fun x hx => own_mono (h.inG x hx) hb, h.apS, h.apG⟩
/-- one more report -/
theorem OwnBd.push {w w3 : World} {B n : Nat} {v v' s g : Value} {r : Rp} {l : List (Rp × Value × Value)} (h : OwnBd w B v n l) (hg : w.grownBy w3 v.ownBlock)
    (hs : w.ownsRow B 3 1 s r.sent.length (nts r.sent)) (hgo : w.ownsRow B 3 1 g r.got.length (nts r.got))
    (hfs : ∀ k, s.ownBlock = some k → v.ownBlock ≠ some k) (hfg : ∀ k, g.ownBlock = some k → v.ownBlock ≠ some k)
    (hown : w3.ownsRow B 61 7 v' (n + 1) (bdC l ++ rpC r s g)) (hb : v'.ownBlock = v.ownBlock ∨ ∃ k, w.heap.size ≤ k ∧ v'.ownBlock = some k) :
    OwnBd w3 B v' (n + 1) (l ++ [(r, s, g)]) := by
  have hnew : ∀ (z : Value) (k : Nat), z.ownBlock = some k → k < w.heap.size → v.ownBlock ≠ some k → v'.ownBlock ≠ some k := fun z k hz hk hne e => by
    rcases hb with hb | ⟨k', h1, h2⟩
    · exact hne (hb.symm.trans e)
    · rw [h2] at e; cases e; omega
  refine ⟨by unfold bdC at *; rw [List.flatMap_append]; simpa using hown, fun x hx => ?_, fun x hx => ?_, fun x hx k hk => ?_, fun x hx k hk => ?_⟩
  · rcases List.mem_append.1 hx with hx | hx
    · exact own_grown (h.inS x hx) hg (fun k hk => h.apS x hx k hk)
    · rw [List.mem_singleton.1 hx]; exact own_grown hs hg hfs
  · rcases List.mem_append.1 hx with hx | hx
    · exact own_grown (h.inG x hx) hg (fun k hk => h.apG x hx k hk)
    · rw [List.mem_singleton.1 hx]; exact own_grown hgo hg hfg
  · rcases List.mem_append.1 hx with hx | hx
    · exact hnew _ k hk ((h.inS x hx).lt k hk).2 (h.apS x hx k hk)
    · rw [List.mem_singleton.1 hx] at hk; exact hnew _ k hk (hs.lt k hk).2 (hfs k hk)
  · rcases List.mem_append.1 hx with hx | hx
    · exact hnew _ k hk ((h.inG x hx).lt k hk).2 (h.apG x hx k hk)
    · rw [List.mem_singleton.1 hx] at hk; exact hnew _ k hk (hgo.lt k hk).2 (hfg k hk)
theorem OwnBd.isBd {w : World} {B : Nat} {v : Value} {n : Nat} {l : List (Rp × Value × Value)} (h : OwnBd w B v n l) : IsBd w v (l.map (·.1)) :=
  ⟨l, rfl, by rw [List.length_map, h.len]; exact Sl.of_own h.outer, fun x hx => ⟨Sl.of_own (h.inS x hx), Sl.of_own (h.inG x hx)⟩⟩
theorem Bx.seven {w : World} {q : Nat} {a b c d e f g : Value} (h : Bx w q [a, b, c, d, e, f, g]) :
    (w.cell? ⟨q, 0, none⟩ = some a ∧ w.cell? ⟨q, 1, none⟩ = some b ∧ w.cell? ⟨q, 2, none⟩ = some c ∧ w.cell? ⟨q, 3, none⟩ = some d ∧ w.cell? ⟨q, 4, none⟩ = some e ∧ w.cell? ⟨q, 5, none⟩ = some f ∧ w.cell? ⟨q, 6, none⟩ = some g) ∧
    (w.frozen? ⟨q, 0, none⟩ = false ∧ w.frozen? ⟨q, 1, none⟩ = false ∧ w.frozen? ⟨q, 2, none⟩ = false ∧ w.frozen? ⟨q, 3, none⟩ = false ∧ w.frozen? ⟨q, 4, none⟩ = false ∧ w.frozen? ⟨q, 5, none⟩ = false ∧ w.frozen? ⟨q, 6, none⟩ = false) := by
  obtain ⟨t, h⟩ := h
  simp [World.cell?, World.frozen?, h]
end Go.Proofs.Ytmadpjmlcooinaa
