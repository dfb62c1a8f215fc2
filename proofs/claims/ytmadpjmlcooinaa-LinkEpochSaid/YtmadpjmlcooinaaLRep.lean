/- How both ends of a link lie in memory. -/
import Derived.Test.YtmadpjmlcooinaaPLink
namespace Go.Proofs.Ytmadpjmlcooinaa
open Go.RowKit
theorem setCell_heap (w : World) (g i : Nat) (u : Value) {cs : Array Value} {t : TypeId} {fr : Nat × Nat} (h : w.heap[g]? = some (.cells cs t fr)) : (w.setCell ⟨g, i, none⟩ u).heap[g]? = some (.cells (cs.setIfInBounds i u) t fr) := by
  have hl := (Array.getElem?_eq_some_iff.1 h).1
  unfold World.setCell
  simp [Array.getElem?_modify, h]
theorem Bx.set {w : World} {g : Nat} {cs : List Value} (h : Bx w g cs) (i : Nat) (u : Value) : Bx (w.setCell ⟨g, i, none⟩ u) g (cs.set i u) := by
  obtain ⟨t, h⟩ := h
  exact ⟨t, by rw [setCell_heap w g i u h, List.setIfInBounds_toArray]⟩
theorem Bx.other {w : World} {g : Nat} {cs : List Value} (h : Bx w g cs) {a : Addr} (ha : g ≠ a.block) (u : Value) : Bx (w.setCell a u) g cs := by
  obtain ⟨t, h⟩ := h
  exact ⟨t, by rw [Below.heap_setCell _ _ _ _ ha]; exact h⟩
theorem bx_fresh (w : World) (g : Nat) (cs : Array Value) (t : TypeId) (hg : g = w.heap.size) : Bx (w.alloc (.cells cs t)) g cs.toList := by
  subst hg
  exact ⟨t, by rw [heap_alloc_new]⟩
theorem bx_store3 {w : World} {g : Nat} {a b c : Value} (h : Bx w g [a, b, c]) (a' b' c' : Value) : Bx (((w.setCell ⟨g, 0, none⟩ a').setCell ⟨g, 1, none⟩ b').setCell ⟨g, 2, none⟩ c') g [a', b', c'] := ((h.set 0 a').set 1 b').set 2 c'
theorem bx_store2 {w : World} {g : Nat} {a b : Value} (h : Bx w g [a, b]) (a' b' : Value) : Bx ((w.setCell ⟨g, 0, none⟩ a').setCell ⟨g, 1, none⟩ b') g [a', b'] := (h.set 0 a').set 1 b'
theorem bx_far3 {w : World} {g f : Nat} {cs : List Value} (h : Bx w g cs) (hf : g ≠ f) (a' b' c' : Value) : Bx (((w.setCell ⟨f, 0, none⟩ a').setCell ⟨f, 1, none⟩ b').setCell ⟨f, 2, none⟩ c') g cs := ((h.other hf _).other hf _).other hf _
theorem bx_far2 {w : World} {g f : Nat} {cs : List Value} (h : Bx w g cs) (hf : g ≠ f) (a' b' : Value) : Bx ((w.setCell ⟨f, 0, none⟩ a').setCell ⟨f, 1, none⟩ b') g cs := (h.other hf _).other hf _
theorem own_store3 {w : World} {B f : Nat} {e : TypeId} {size : Nat} {v : Value} {n : Nat} {xs : List Value} (h : w.ownsRow B e size v n xs) (hf : f < B) (a' b' c' : Value) : (((w.setCell ⟨f, 0, none⟩ a').setCell ⟨f, 1, none⟩ b').setCell ⟨f, 2, none⟩ c').ownsRow B e size v n xs := own_setCell (own_setCell (own_setCell h hf _) hf _) hf _
theorem own_store2 {w : World} {B f : Nat} {e : TypeId} {size : Nat} {v : Value} {n : Nat} {xs : List Value} (h : w.ownsRow B e size v n xs) (hf : f < B) (a' b' : Value) : ((w.setCell ⟨f, 0, none⟩ a').setCell ⟨f, 1, none⟩ b').ownsRow B e size v n xs := own_setCell (own_setCell h hf _) hf _
theorem below_store3 {w0 w : World} {B f : Nat} (h : Below B w0 w) (hf : B ≤ f) (a' b' c' : Value) : Below B w0 (((w.setCell ⟨f, 0, none⟩ a').setCell ⟨f, 1, none⟩ b').setCell ⟨f, 2, none⟩ c') := ((h.setCell hf _).setCell hf _).setCell hf _
theorem below_store2 {w0 w : World} {B f : Nat} (h : Below B w0 w) (hf : B ≤ f) (a' b' : Value) : Below B w0 ((w.setCell ⟨f, 0, none⟩ a').setCell ⟨f, 1, none⟩ b') := (h.setCell hf _).setCell hf _
theorem size_setCell (w : World) (a : Addr) (u : Value) : (w.setCell a u).heap.size = w.heap.size := by simp [World.setCell]
theorem results_tct {fn : Func} {p u t : Tmp} {ty : TypeId} (h : fn.results = #[.tmp t, .cell p ty, .tmp u]) (tmps : Array Value) (P : Program) (w : World) :
    (results fn tmps).run P w =
      ((asAddr (tmps.getD p undef)).run P w).andThen fun a w₁ => ((loadVar ty a).run P w₁).andThen fun v w₂ => .ok (.tuple #[tmps.getD t undef, v, tmps.getD u undef]) w₂ := by
  simp only [results, h]
  simp [Sem.run_bind, Result.andThen]
/-- acks as cells -/
def akc (ep : Nat) (l : List Nat) : List Value := l.flatMap fun (a : Nat) => [.int .i64 (ep : Int), .int .i64 (a : Int)]
theorem akc_append (ep : Nat) (l r : List Nat) : akc ep (l ++ r) = akc ep l ++ akc ep r := by simp [akc]
theorem akc_len (ep : Nat) (l : List Nat) : (akc ep l).length = l.length * 2 := by
  induction l with
  | nil => rfl
  | cons a l ih => show ([_, _] ++ akc ep l).length = _; rw [List.length_append, ih, List.length_cons]; simp; omega
theorem akc_get {ep : Nat} {l : List Nat} {i : Nat} (h : i < l.length) : (akc ep l)[i * 2]? = some (.int .i64 (ep : Int)) ∧ (akc ep l)[i * 2 + 1]? = some (.int .i64 (l[i] : Int)) := by
  induction l generalizing i with
  | nil => simp at h
  | cons a l ih =>
    cases i with
    | zero => exact ⟨rfl, rfl⟩
    | succ i =>
      have := ih (i := i) (by simpa using h)
      rw [show (i + 1) * 2 = i * 2 + 1 + 1 from by omega]
      exact this
theorem pkc_get {ep : Nat} {l : List (Nat × Ml)} {i : Nat} (h : i < l.length) : (pkc ep l)[i * 4]? = some (.int .i64 (ep : Int)) ∧ (pkc ep l)[i * 4 + 1]? = some (.int .i64 (l[i].1 : Int)) ∧ (pkc ep l)[i * 4 + 2]? = some (.int .i64 (l[i].2.1 : Int)) ∧ (pkc ep l)[i * 4 + 3]? = some (.int .i64 (l[i].2.2 : Int)) := by
  induction l generalizing i with
  | nil => simp at h
  | cons a l ih =>
    cases i with
    | zero => exact ⟨rfl, rfl, rfl, rfl⟩
    | succ i =>
      have := ih (i := i) (by simpa using h)
      rw [show (i + 1) * 4 = i * 4 + 1 + 1 + 1 + 1 from by omega]
      exact this
theorem inf_ack : (Try.prog.info? 46).map (fun i => (i.zero, i.size, i.bytes)) = some (some (.agg #[.int .i64 0, .int .i64 0]), 2, 16) := by kernel_rfl
/-- own slices lead to the head of a block -/
theorem own_addr {w : World} {base : Nat} {e : TypeId} {size n m c : Nat} {p : Option Addr} {xs : List Value} (h : w.ownsRow base e size (.slice p m c) n xs) : ∀ a, p = some a → ∃ b off, a = ⟨b, off, none⟩ := by
  intro a ha
  rcases h.2 with ⟨h1, _⟩ | ⟨g, cap, cur, h1, _⟩
  · cases h1; cases ha
  · cases h1; cases ha; exact ⟨_, _, rfl⟩
structure LRep (wr : World) (B g7 g9 g10 : Nat) (s : LS) (v15 v16 v17 : Value) (pl : Option Addr) (cl : Nat) : Prop where
  b7 : ∃ a b c, Bx wr g7 [a, b, c]
  b9 : Bx wr g9 [.int .i64 1, .int .i64 (s.ba : Int), .slice pl s.loads.length cl]
  b10 : Bx wr g10 [.int .i64 1, .int .i64 (s.want : Int)]
  lo : wr.ownsRow B 41 2 (.slice pl s.loads.length cl) s.loads.length (mcs s.loads)
  pk : wr.ownsRow B 50 4 v15 s.pk.length (pkc 1 s.pk)
  ak : wr.ownsRow B 46 2 v16 s.ak.length (akc 1 s.ak)
  go : wr.ownsRow B 41 2 v17 s.got.length (mcs s.got)
  sep : ∀ k, v17.ownBlock = some k → (Value.slice pl s.loads.length cl).ownBlock ≠ some k
  hB : B ≤ wr.heap.size
theorem LRep.later {wr w' : World} {B g7 g9 g10 : Nat} {s : LS} {v15 v16 v17 : Value} {pl : Option Addr} {cl : Nat} (h : LRep wr B g7 g9 g10 s v15 v16 v17 pl cl) (hb : Below wr.heap.size wr w') : LRep w' B g7 g9 g10 s v15 v16 v17 pl cl := by
  obtain ⟨a, b, c, h7⟩ := h.b7
  exact ⟨⟨a, b, c, h7.later hb h7.lt⟩, h.b9.later hb h.b9.lt, h.b10.later hb h.b10.lt, own_later h.lo hb, own_later h.pk hb, own_later h.ak hb, own_later h.go hb, h.sep, Nat.le_trans h.hB hb.size⟩
theorem own_grown {w w' : World} {B : Nat} {e : TypeId} {size : Nat} {v : Value} {n : Nat} {xs : List Value} {o : Option Nat} (h : w.ownsRow B e size v n xs) (hg : w.grownBy w' o) (hne : ∀ k, v.ownBlock = some k → o ≠ some k) : w'.ownsRow B e size v n xs := by
  refine ⟨h.1, ?_⟩
  rcases h.2 with hn | ⟨g, cap, cur, rfl, h1, h2, h3⟩
  · exact .inl hn
  · exact .inr ⟨g, cap, cur, rfl, h1, (hg.block g (Array.getElem?_eq_some_iff.1 h2).1 (fun e => hne g rfl e.symm)).trans h2, h3⟩
theorem own_ne {w : World} {B C : Nat} {e f : TypeId} {size size' : Nat} {v u : Value} {n n' : Nat} {xs ys : List Value} (h : w.ownsRow B e size v n xs) (h' : w.ownsRow C f size' u n' ys) (hef : e ≠ f) : ∀ k, v.ownBlock = some k → u.ownBlock ≠ some k := by
  intro k hk hk'
  rcases h.2 with ⟨rfl, _⟩ | ⟨g, cap, cur, rfl, _, h2, _⟩
  · cases hk
  · rcases h'.2 with ⟨rfl, _⟩ | ⟨g', cap', cur', rfl, _, h2', _⟩
    · cases hk'
    · cases hk
      have e2 : g' = g := by cases hk'; rfl
      subst e2
      rw [h2] at h2'
      cases h2'
      exact hef rfl
theorem LRep.app_pk {wr w' : World} {B g7 g9 g10 : Nat} {s : LS} {v15 v16 v17 u15 : Value} {pl : Option Addr} {cl : Nat} {new : List (Nat × Ml)} (h : LRep wr B g7 g9 g10 s v15 v16 v17 pl cl) (hg : wr.grownBy w' v15.ownBlock) (h7 : g7 < B) (h9 : g9 < B) (h10 : g10 < B) (hp : w'.ownsRow B 50 4 u15 (s.pk ++ new).length (pkc 1 (s.pk ++ new))) :
    LRep w' B g7 g9 g10 { s with pk := s.pk ++ new } u15 v16 v17 pl cl := by
  obtain ⟨a, b, c, hb7⟩ := h.b7
  exact ⟨⟨a, b, c, hb7.grown hg (own_far h.pk h7)⟩, h.b9.grown hg (own_far h.pk h9), h.b10.grown hg (own_far h.pk h10), own_grown h.lo hg (own_ne h.lo h.pk (by decide)), hp, own_grown h.ak hg (own_ne h.ak h.pk (by decide)), own_grown h.go hg (own_ne h.go h.pk (by decide)), h.sep, Nat.le_trans h.hB hg.size⟩
theorem LRep.app_ak {wr w' : World} {B g7 g9 g10 : Nat} {s : LS} {v15 v16 v17 u16 : Value} {pl : Option Addr} {cl : Nat} {new : List Nat} (h : LRep wr B g7 g9 g10 s v15 v16 v17 pl cl) (hg : wr.grownBy w' v16.ownBlock) (h7 : g7 < B) (h9 : g9 < B) (h10 : g10 < B) (hp : w'.ownsRow B 46 2 u16 (s.ak ++ new).length (akc 1 (s.ak ++ new))) :
    LRep w' B g7 g9 g10 { s with ak := s.ak ++ new } v15 u16 v17 pl cl := by
  obtain ⟨a, b, c, hb7⟩ := h.b7
  exact ⟨⟨a, b, c, hb7.grown hg (own_far h.ak h7)⟩, h.b9.grown hg (own_far h.ak h9), h.b10.grown hg (own_far h.ak h10), own_grown h.lo hg (own_ne h.lo h.ak (by decide)), own_grown h.pk hg (own_ne h.pk h.ak (by decide)), hp, own_grown h.go hg (own_ne h.go h.ak (by decide)), h.sep, Nat.le_trans h.hB hg.size⟩
theorem LRep.app_got {wr w' : World} {B g7 g9 g10 : Nat} {s : LS} {v15 v16 v17 u17 : Value} {pl : Option Addr} {cl : Nat} {new : List Ml} (h : LRep wr B g7 g9 g10 s v15 v16 v17 pl cl) (hg : wr.grownBy w' v17.ownBlock) (ho : u17.ownBlock = v17.ownBlock ∨ u17.ownBlock = some wr.heap.size) (h7 : g7 < B) (h9 : g9 < B) (h10 : g10 < B) (hp : w'.ownsRow B 41 2 u17 (s.got ++ new).length (mcs (s.got ++ new))) :
    LRep w' B g7 g9 g10 { s with got := s.got ++ new } v15 v16 u17 pl cl := by
  obtain ⟨a, b, c, hb7⟩ := h.b7
  refine ⟨⟨a, b, c, hb7.grown hg (own_far h.go h7)⟩, h.b9.grown hg (own_far h.go h9), h.b10.grown hg (own_far h.go h10), own_grown h.lo hg (fun k hk hk' => h.sep k hk' hk), own_grown h.pk hg (own_ne h.pk h.go (by decide)), own_grown h.ak hg (own_ne h.ak h.go (by decide)), hp, ?_, Nat.le_trans h.hB hg.size⟩
  intro k hk hk'
  rcases ho with ho | ho
  · exact h.sep k (ho ▸ hk) hk'
  · have h1 := (h.lo.lt k hk').2
    rw [ho] at hk
    cases hk
    omega
end Go.Proofs.Ytmadpjmlcooinaa
