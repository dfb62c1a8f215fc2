/- Rounds: what they compute; plain laws. No program walked. -/
import Derived.Test.YtiaflhlfodcbjaaPProg
import Derived.Test.YtiaflhlfodcbjaaPGraph
namespace Go.Proofs.Ytiaflhlfodcbjaa
/-- what a walk from a beginning comes to -/
inductive Wt (R : Nat → Nat → Int → Prop) (U : Nat → Prop) (i : Nat → Int) : Nat → Int → Prop
  | here {v : Nat} : U v → 0 ≤ i v → Wt R U i v (i v)
  | on {u v : Nat} {w m : Int} : Wt R U i u m → R u v w → U v → Wt R U i v (m + w)
/-- behind k rounds: what each vertex has, and its mail -/
structure MP (N : Nat) (R : Nat → Nat → Int → Prop) (U : Nat → Prop) (i : Nat → Int) (k : Nat) (x : Nat → Int) (M : Nat → List Int) : Prop where
  low : ∀ v, v < N → -1 ≤ x v
  wit : ∀ v, v < N → U v → 0 ≤ x v → Wt R U i v (x v)
  ini : ∀ v, v < N → U v → 0 ≤ i v → 0 ≤ x v ∧ x v ≤ i v
  arc : ∀ u v w, R u v w → U u → U v → 0 ≤ x u → (0 ≤ x v ∧ x v ≤ x u + w) ∨ (x u + w) ∈ M v
  pos : ∀ v, v < N → ∀ m ∈ M v, 0 ≤ m
  mwit : ∀ v, v < N → U v → ∀ m ∈ M v, Wt R U i v m
  chain : ∀ v, v < N → ∀ m ∈ M v, ∃ c : List Nat, c.Nodup ∧ c.length = k ∧ ∀ u ∈ c, u < N ∧ 0 ≤ x u ∧ x u ≤ m
/-- arcs lie among the vertices, and are not below 0 -/
def ArcOk (N : Nat) (R : Nat → Nat → Int → Prop) : Prop := ∀ u v w, R u v w → u < N ∧ v < N ∧ 0 ≤ w
theorem MP.start {N : Nat} {R : Nat → Nat → Int → Prop} {U : Nat → Prop} {i x : Nat → Int} {M : Nat → List Int} (hR : ArcOk N R)
    (hx : ∀ v, v < N → U v → x v = i v) (hlow : ∀ v, v < N → -1 ≤ x v)
    (hM : ∀ v, v < N → ∀ m, m ∈ M v ↔ ∃ u w, R u v w ∧ (U u ∧ 0 ≤ i u) ∧ m = x u + w) : MP N R U i 1 x M where
  low := hlow
  wit v hv hU h := by rw [hx v hv hU] at h ⊢; exact .here hU h
  ini v hv hU h := by rw [hx v hv hU]; exact ⟨h, Int.le_refl _⟩
  arc u v w hr hu hv h := by
    right
    have hb := hR u v w hr
    rw [hM v hb.2.1]
    exact ⟨u, w, hr, ⟨hu, by rw [← hx u hb.1 hu]; exact h⟩, rfl⟩
  pos v hv m hm := by
    obtain ⟨u, w, hr, ⟨hu, h0⟩, rfl⟩ := (hM v hv m).1 hm
    have hb := hR u v w hr
    rw [hx u hb.1 hu]; omega
  mwit v hv hU m hm := by
    obtain ⟨u, w, hr, ⟨hu, h0⟩, rfl⟩ := (hM v hv m).1 hm
    have hb := hR u v w hr
    rw [hx u hb.1 hu]
    exact .on (.here hu h0) hr hU
  chain v hv m hm := by
    obtain ⟨u, w, hr, ⟨hu, h0⟩, rfl⟩ := (hM v hv m).1 hm
    have hb := hR u v w hr
    refine ⟨[u], by simp, rfl, fun y hy => ?_⟩
    rw [List.mem_singleton] at hy
    subst hy
    have := hx y hb.1 hu
    exact ⟨hb.1, by omega, by omega⟩
theorem MP.step {N k : Nat} {R : Nat → Nat → Int → Prop} {U : Nat → Prop} {i x x' : Nat → Int} {M M' : Nat → List Int} {said : Nat → Prop} (h : MP N R U i k x M) (hR : ArcOk N R)
    (hx : ∀ v, v < N → U v → x' v = lwA (x v) (M v)) (hx2 : ∀ v, v < N → ¬ U v → x' v = x v) (hs : ∀ v, v < N → (said v ↔ U v ∧ x' v ≠ x v))
    (hM : ∀ v, v < N → ∀ m, m ∈ M' v ↔ ∃ u w, R u v w ∧ said u ∧ m = x' u + w) : MP N R U i (k + 1) x' M' := by
  have lw : ∀ v, v < N → U v → -1 ≤ x' v ∧ (x v = -1 ∨ x' v ≤ x v) ∧ (∀ m ∈ M v, x' v ≤ m) ∧ (x' v = x v ∨ x' v ∈ M v) ∧ (M v ≠ [] → 0 ≤ x' v) := fun v hv hU => by
    obtain ⟨-, h1, h2, -, h3, h4, h5⟩ := lw_all (M v) (x v) (h.low v hv) (h.pos v hv)
    rw [hx v hv hU]
    exact ⟨h1, h2, h3, h4, h5⟩
  have mono : ∀ v, v < N → 0 ≤ x v → 0 ≤ x' v ∧ x' v ≤ x v := fun v hv h0 => by
    by_cases hU : U v
    · obtain ⟨h1, h2, h3, h4, h5⟩ := lw v hv hU
      refine ⟨?_, by omega⟩
      rcases h4 with h4 | h4
      · omega
      · exact h.pos v hv _ h4
    · rw [hx2 v hv hU]; exact ⟨h0, Int.le_refl _⟩
  have new : ∀ v, v < N → said v → U v ∧ x' v ∈ M v ∧ (x v = -1 ∨ x' v < x v) := fun v hv hsd => by
    obtain ⟨hU, hne⟩ := (hs v hv).1 hsd
    obtain ⟨h1, h2, h3, h4, h5⟩ := lw v hv hU
    refine ⟨hU, ?_, by omega⟩
    rcases h4 with h4 | h4
    · exact absurd h4 hne
    · exact h4
  refine ⟨fun v hv => ?_, fun v hv hU h0 => ?_, fun v hv hU h0 => ?_, fun u v w hr hu hv h0 => ?_, fun v hv m hm => ?_, fun v hv hU m hm => ?_, fun v hv m hm => ?_⟩
  · by_cases hU : U v
    · exact (lw v hv hU).1
    · rw [hx2 v hv hU]; exact h.low v hv
  · obtain ⟨h1, h2, h3, h4, h5⟩ := lw v hv hU
    rcases h4 with h4 | h4
    · rw [h4] at h0 ⊢; exact h.wit v hv hU h0
    · exact h.mwit v hv hU _ h4
  · obtain ⟨h1, h2⟩ := h.ini v hv hU h0
    obtain ⟨h3, h4⟩ := mono v hv h1
    exact ⟨h3, by omega⟩
  · have hb := hR u v w hr
    by_cases hsd : said u
    · right
      rw [hM v hb.2.1]
      exact ⟨u, w, hr, hsd, rfl⟩
    · left
      have he : x' u = x u := by
        have := hs u hb.1
        by_cases hne : x' u = x u
        · exact hne
        · exact absurd (this.2 ⟨hu, hne⟩) hsd
      rw [he] at h0 ⊢
      obtain ⟨l1, l2, l3, l4, l5⟩ := lw v hb.2.1 hv
      rcases h.arc u v w hr hu hv h0 with ⟨h1, h2⟩ | h1
      · have := mono v hb.2.1 h1
        omega
      · have := l3 _ h1
        have := l5 (fun e => by rw [e] at h1; cases h1)
        omega
  · obtain ⟨u, w, hr, hsd, rfl⟩ := (hM v hv m).1 hm
    have hb := hR u v w hr
    obtain ⟨-, h1, -⟩ := new u hb.1 hsd
    have := h.pos u hb.1 _ h1
    omega
  · obtain ⟨u, w, hr, hsd, rfl⟩ := (hM v hv m).1 hm
    have hb := hR u v w hr
    obtain ⟨hu, h1, -⟩ := new u hb.1 hsd
    exact .on (h.mwit u hb.1 hu _ h1) hr hU
  · obtain ⟨u, w, hr, hsd, rfl⟩ := (hM v hv m).1 hm
    have hb := hR u v w hr
    obtain ⟨hu, h1, h2⟩ := new u hb.1 hsd
    obtain ⟨c, c1, c2, c3⟩ := h.chain u hb.1 _ h1
    have hp := h.pos u hb.1 _ h1
    have hnc : u ∉ c := fun hm => by
      have := c3 u hm
      omega
    refine ⟨u :: c, List.nodup_cons.2 ⟨hnc, c1⟩, by simp [c2], fun y hy => ?_⟩
    rcases List.mem_cons.1 hy with rfl | hy
    · exact ⟨hb.1, hp, by omega⟩
    · obtain ⟨y1, y2, y3⟩ := c3 y hy
      have := mono y y1 y2
      exact ⟨y1, this.1, by omega⟩
theorem nodup_lt_len : ∀ (N : Nat) (c : List Nat), c.Nodup → (∀ u ∈ c, u < N) → c.length ≤ N
  | 0, c, _, h => by
    cases c with
    | nil => simp
    | cons a c => exact absurd (h a (by simp)) (by omega)
  | N + 1, c, hd, h => by
    have h1 : (c.erase N).length ≤ N := nodup_lt_len N (c.erase N) (hd.erase N) (fun u hu => by
      have := (hd.mem_erase_iff).1 hu
      have := h u this.2
      omega)
    have h2 := List.length_erase_le (a := N) (l := c)
    have h3 : c.length ≤ (c.erase N).length + 1 := by
      rw [List.length_erase]; split <;> omega
    omega
theorem MP.bound {N k : Nat} {R : Nat → Nat → Int → Prop} {U : Nat → Prop} {i x : Nat → Int} {M : Nat → List Int} (h : MP N R U i k x M) {v : Nat} (hv : v < N) (hM : M v ≠ []) : k ≤ N := by
  obtain ⟨m, hm⟩ := List.exists_mem_of_ne_nil _ hM
  obtain ⟨c, c1, c2, c3⟩ := h.chain v hv m hm
  rw [← c2]
  exact nodup_lt_len N c c1 (fun u hu => (c3 u hu).1)
/-- where no mail is left: the least of all walks -/
structure MPEnd (N : Nat) (R : Nat → Nat → Int → Prop) (U : Nat → Prop) (i : Nat → Int) (x : Nat → Int) : Prop where
  low : ∀ v, v < N → -1 ≤ x v
  wit : ∀ v, v < N → U v → 0 ≤ x v → Wt R U i v (x v)
  le : ∀ v m, v < N → Wt R U i v m → 0 ≤ x v ∧ x v ≤ m
theorem Wt.scope {R : Nat → Nat → Int → Prop} {U : Nat → Prop} {i : Nat → Int} {v : Nat} {m : Int} (h : Wt R U i v m) : U v := by
  cases h with
  | here h _ => exact h
  | on _ _ h => exact h
theorem MP.end {N k : Nat} {R : Nat → Nat → Int → Prop} {U : Nat → Prop} {i x : Nat → Int} {M : Nat → List Int} (h : MP N R U i k x M) (hR : ArcOk N R) (hM : ∀ v, v < N → M v = []) : MPEnd N R U i x where
  low := h.low
  wit := h.wit
  le v m hv hw := by
    induction hw with
    | here hU h0 => exact h.ini _ hv hU h0
    | @on u v w m hw hr hU ih =>
      have hb := hR u v w hr
      obtain ⟨h1, h2⟩ := ih hb.1
      rcases h.arc u v w hr hw.scope hU h1 with ⟨h3, h4⟩ | h3
      · exact ⟨h3, by omega⟩
      · rw [hM v hb.2.1] at h3; cases h3
end Go.Proofs.Ytiaflhlfodcbjaa
namespace Go.Proofs.Ytiaflhlfodcbjaa
/-- is a label given behind the turn? -/
def bkB (v a : Int) (fresh : Bool) (l : List Int) : Bool := if fresh then decide (a = v) else decide (a ∈ l)
/-- what a vertex does with its mail -/
def wkF (kind : Nat) (v src : Int) (x : Int × Int) (phase : Nat) (fresh : Bool) (mail : List Int) : (Int × Int) × Bool :=
  if kind = 1 then
    if fresh then ((if v = src then 0 else -1, -1), decide (v = src)) else ((lwA x.1 mail, x.2), lwS x.1 false mail)
  else if kind = 2 then
    if fresh then ((v, -1), true) else ((lwA x.1 mail, x.2), lwS x.1 false mail)
  else if x.2 ≠ -1 then (x, false)
  else if phase = 0 then
    if fresh then ((v, -1), true) else ((lwA x.1 mail, x.2), lwS x.1 false mail)
  else if bkB v x.1 fresh mail = true then ((x.1, x.1), true) else (x, false)
/-- a state of a job -/
structure RSt where
  step : Nat
  phase : Nat
  fresh : Bool
  done : Bool
  vals : List (Int × Int)
  mail : List (List Int)
def aV (s : RSt) (v : Nat) : Int × Int := s.vals.getD v (-1, -1)
def mL (s : RSt) (v : Nat) : List Int := s.mail.getD v []
def awk (kind : Nat) (src : Int) (s : RSt) (v : Nat) : (Int × Int) × Bool :=
  if s.fresh = false ∧ mL s v = [] then (aV s v, false) else wkF kind (v : Int) src (aV s v) s.phase s.fresh (mL s v)
def wayO (kind phase : Nat) : Bool := kind != 3 || phase == 0
def wayI (kind phase : Nat) : Bool := kind == 2 || (kind == 3 && phase == 1)
def sayF (kind : Nat) (x : Int) (wt : Nat) : Int := if kind = 1 then x + (wt : Int) else x
def eMsgs (kind phase v : Nat) (x : Int) (e : Eg) : List (Nat × Int) :=
  (if wayO kind phase && e.1 == v then [(e.2.1, sayF kind x e.2.2)] else []) ++ (if wayI kind phase && e.2.1 == v then [(e.1, sayF kind x e.2.2)] else [])
def vMsgs (kind : Nat) (src : Int) (E : List Eg) (s : RSt) (v : Nat) : List (Nat × Int) :=
  if (awk kind src s v).2 then E.flatMap (eMsgs kind s.phase v (awk kind src s v).1.1) else []
def upMsgs (kind : Nat) (src : Int) (E : List Eg) (s : RSt) (k : Nat) : List (Nat × Int) := (List.range k).flatMap (vMsgs kind src E s)
def boxOf (ms : List (Nat × Int)) (t : Nat) : List Int := (ms.filter fun m => m.1 == t).map (·.2)
def sortI (l : List Int) : List Int := l.mergeSort fun x y => decide (x ≤ y)
def nVals (kind : Nat) (src : Int) (N : Nat) (s : RSt) : List (Int × Int) := (List.range N).map fun v => (awk kind src s v).1
def nMail (kind : Nat) (src : Int) (N : Nat) (E : List Eg) (s : RSt) : List (List Int) := (List.range N).map fun t => sortI (boxOf (upMsgs kind src E s N) t)
def anyL (l : List (List Int)) : Bool := l.any fun x => !x.isEmpty
/-- the next round -/
def nextF (kind : Nat) (src : Int) (N : Nat) (E : List Eg) (s : RSt) : RSt :=
  if s.done = true then s
  else if anyL (nMail kind src N E s) = true then ⟨s.step + 1, s.phase, false, false, nVals kind src N s, nMail kind src N E s⟩
  else if kind ≠ 3 then ⟨s.step + 1, s.phase, false, true, nVals kind src N s, nMail kind src N E s⟩
  else if s.phase = 0 then ⟨s.step + 1, 1, true, false, nVals kind src N s, nMail kind src N E s⟩
  else if ((nVals kind src N s).any fun x => x.2 == -1) = true then ⟨s.step + 1, 0, true, false, nVals kind src N s, nMail kind src N E s⟩
  else ⟨s.step + 1, s.phase, false, true, nVals kind src N s, nMail kind src N E s⟩
def beginF (N : Nat) : RSt := ⟨0, 0, true, false, List.replicate N (-1, -1), List.replicate N []⟩
theorem sortI_perm (l : List Int) : (sortI l).Perm l := List.mergeSort_perm _ _
theorem sortI_mem {l : List Int} {m : Int} : m ∈ sortI l ↔ m ∈ l := (sortI_perm l).mem_iff
theorem sortI_len (l : List Int) : (sortI l).length = l.length := (sortI_perm l).length_eq
theorem sortI_sorted (l : List Int) : (sortI l).Pairwise (· ≤ ·) := by
  have h := List.pairwise_mergeSort (le := fun x y : Int => decide (x ≤ y)) (by intro a b c; simp; omega) (by intro a b; simp; omega) l
  exact h.imp (by intro a b hab; simpa using hab)
/-- an arc along which something goes -/
def RA (kind phase : Nat) (E : List Eg) (u t : Nat) (w : Int) : Prop :=
  ∃ a, w = sayF kind 0 a ∧ ((wayO kind phase = true ∧ (u, t, a) ∈ E) ∨ (wayI kind phase = true ∧ (t, u, a) ∈ E))
theorem sayF_eq (kind : Nat) (x : Int) (a : Nat) : sayF kind x a = x + sayF kind 0 a := by
  unfold sayF; split <;> omega
theorem RA.ok {kind phase N : Nat} {E : List Eg} (hG : InG N E) : ArcOk N (RA kind phase E) := fun u t w ⟨a, hw, h⟩ => by
  have h0 : 0 ≤ sayF kind 0 a := by unfold sayF; split <;> omega
  rcases h with ⟨_, h⟩ | ⟨_, h⟩
  · have := hG _ h; exact ⟨this.1, this.2.1, by omega⟩
  · have := hG _ h; exact ⟨this.2.1, this.1, by omega⟩
theorem RA.wt {kind phase N : Nat} {E : List Eg} (hG : InG N E) {u t : Nat} {w : Int} (h : RA kind phase E u t w) : w ≤ 9 ∧ (kind ≠ 1 → w = 0) := by
  obtain ⟨a, hw, h⟩ := h
  have : a < 10 := by
    rcases h with ⟨_, h⟩ | ⟨_, h⟩
    · exact (hG _ h).2.2
    · exact (hG _ h).2.2
  subst hw
  unfold sayF
  split
  · exact ⟨by omega, fun h => absurd (by assumption) h⟩
  · exact ⟨by omega, fun _ => rfl⟩
theorem mem_eMsgs {kind phase v : Nat} {x : Int} {e : Eg} {t : Nat} {m : Int} :
    (t, m) ∈ eMsgs kind phase v x e ↔ ((wayO kind phase = true ∧ e.1 = v ∧ e.2.1 = t) ∨ (wayI kind phase = true ∧ e.2.1 = v ∧ e.1 = t)) ∧ m = sayF kind x e.2.2 := by
  unfold eMsgs
  rw [List.mem_append]
  constructor
  · rintro (h | h)
    · split at h
      · rename_i hc
        simp only [Bool.and_eq_true, beq_iff_eq] at hc
        simp only [List.mem_singleton, Prod.mk.injEq] at h
        exact ⟨.inl ⟨hc.1, hc.2, h.1.symm⟩, h.2⟩
      · cases h
    · split at h
      · rename_i hc
        simp only [Bool.and_eq_true, beq_iff_eq] at hc
        simp only [List.mem_singleton, Prod.mk.injEq] at h
        exact ⟨.inr ⟨hc.1, hc.2, h.1.symm⟩, h.2⟩
      · cases h
  · rintro ⟨⟨h1, h2, h3⟩ | ⟨h1, h2, h3⟩, rfl⟩
    · left
      rw [if_pos (by simp [h1, h2]), h3]; simp
    · right
      rw [if_pos (by simp [h1, h2]), h3]; simp
theorem mem_upMsgs {kind : Nat} {src : Int} {E : List Eg} {s : RSt} {k t : Nat} {m : Int} :
    (t, m) ∈ upMsgs kind src E s k ↔ ∃ u w, RA kind s.phase E u t w ∧ (u < k ∧ (awk kind src s u).2 = true) ∧ m = (awk kind src s u).1.1 + w := by
  unfold upMsgs vMsgs
  rw [List.mem_flatMap]
  constructor
  · rintro ⟨v, hv, h⟩
    rw [List.mem_range] at hv
    split at h
    · rename_i hs
      obtain ⟨e, he, h⟩ := List.mem_flatMap.1 h
      obtain ⟨h1, h2⟩ := mem_eMsgs.1 h
      refine ⟨v, _, ⟨e.2.2, rfl, ?_⟩, ⟨hv, hs⟩, by rw [h2, sayF_eq]⟩
      rcases h1 with ⟨a, b, c⟩ | ⟨a, b, c⟩
      · left; subst b c; exact ⟨a, he⟩
      · right; subst b c; exact ⟨a, he⟩
    · cases h
  · rintro ⟨u, w, ⟨a, rfl, h⟩, ⟨hu, hs⟩, rfl⟩
    refine ⟨u, List.mem_range.2 hu, ?_⟩
    rw [if_pos hs, List.mem_flatMap]
    rcases h with ⟨h1, h2⟩ | ⟨h1, h2⟩
    · exact ⟨_, h2, mem_eMsgs.2 ⟨.inl ⟨h1, rfl, rfl⟩, by rw [← sayF_eq]⟩⟩
    · exact ⟨_, h2, mem_eMsgs.2 ⟨.inr ⟨h1, rfl, rfl⟩, by rw [← sayF_eq]⟩⟩
theorem mem_boxOf {ms : List (Nat × Int)} {t : Nat} {m : Int} : m ∈ boxOf ms t ↔ (t, m) ∈ ms := by
  unfold boxOf
  rw [List.mem_map]
  constructor
  · rintro ⟨⟨a, b⟩, h, rfl⟩
    rw [List.mem_filter] at h
    have : a = t := by simpa using h.2
    subst this; exact h.1
  · intro h
    exact ⟨(t, m), List.mem_filter.2 ⟨h, by simp⟩, rfl⟩
theorem nMail_at {kind : Nat} {src : Int} {N : Nat} {E : List Eg} {s : RSt} {t : Nat} (ht : t < N) : (nMail kind src N E s).getD t [] = sortI (boxOf (upMsgs kind src E s N) t) := by
  unfold nMail
  rw [List.getD_eq_getElem?_getD, List.getElem?_map, List.getElem?_range ht]; rfl
theorem nVals_at {kind : Nat} {src : Int} {N : Nat} {s : RSt} {v : Nat} (hv : v < N) : (nVals kind src N s).getD v (-1, -1) = (awk kind src s v).1 := by
  unfold nVals
  rw [List.getD_eq_getElem?_getD, List.getElem?_map, List.getElem?_range hv]; rfl
/-- what the next state is made of -/
theorem nextF_vals {kind : Nat} {src : Int} {N : Nat} {E : List Eg} {s : RSt} (hd : s.done = false) : (nextF kind src N E s).vals = nVals kind src N s ∧ (nextF kind src N E s).mail = nMail kind src N E s ∧ (nextF kind src N E s).step = s.step + 1 := by
  unfold nextF
  rw [if_neg (by simp [hd])]
  (repeat' split) <;> exact ⟨rfl, rfl, rfl⟩
theorem nextF_aV {kind : Nat} {src : Int} {N : Nat} {E : List Eg} {s : RSt} (hd : s.done = false) {v : Nat} (hv : v < N) : aV (nextF kind src N E s) v = (awk kind src s v).1 := by
  unfold aV; rw [(nextF_vals hd).1, nVals_at hv]
theorem nextF_mL {kind : Nat} {src : Int} {N : Nat} {E : List Eg} {s : RSt} (hd : s.done = false) {t : Nat} (ht : t < N) (m : Int) :
    m ∈ mL (nextF kind src N E s) t ↔ ∃ u w, RA kind s.phase E u t w ∧ (u < N ∧ (awk kind src s u).2 = true) ∧ m = (awk kind src s u).1.1 + w := by
  unfold mL; rw [(nextF_vals hd).2.1, nMail_at ht, sortI_mem, mem_boxOf, mem_upMsgs]
theorem anyL_false {l : List (List Int)} (h : anyL l = false) (t : Nat) : l.getD t [] = [] := by
  unfold anyL at h
  rw [List.any_eq_false] at h
  rw [List.getD_eq_getElem?_getD]
  rcases ht : l[t]? with _ | x
  · rfl
  · have := h x (List.mem_of_getElem? ht)
    simpa using this
theorem anyL_true {kind : Nat} {src : Int} {N : Nat} {E : List Eg} {s : RSt} (h : anyL (nMail kind src N E s) = true) : ∃ t, t < N ∧ (nMail kind src N E s).getD t [] ≠ [] := by
  unfold anyL at h
  obtain ⟨x, hx, hne⟩ := List.any_eq_true.1 h
  obtain ⟨t, ht, rfl⟩ := List.mem_iff_getElem.1 hx
  refine ⟨t, by simpa [nMail] using ht, ?_⟩
  rw [List.getD_eq_getElem?_getD, List.getElem?_eq_getElem ht]
  simpa using hne
/-- so many rounds, and what holds behind them -/
inductive EndsIn (nx : RSt → RSt) (Q : RSt → Prop) : Nat → RSt → Prop
  | stop {s : RSt} : s.done = true → Q s → EndsIn nx Q 0 s
  | go {k : Nat} {s : RSt} : s.done = false → EndsIn nx Q k (nx s) → EndsIn nx Q (k + 1) s
theorem EndsIn.mono {nx : RSt → RSt} {Q Q' : RSt → Prop} (hq : ∀ s, Q s → Q' s) {k : Nat} {s : RSt} (h : EndsIn nx Q k s) : EndsIn nx Q' k s := by
  induction h with
  | stop h1 h2 => exact .stop h1 (hq _ h2)
  | go h1 _ ih => exact .go h1 ih
/-- the numbers of a state are within their bounds -/
def capF (kind N step : Nat) : Int := if kind = 1 then 9 * (step : Int) else (N : Int) - 1
structure GoodS (kind N : Nat) (s : RSt) : Prop where
  vl : s.vals.length = N
  ml : s.mail.length = N
  ph : s.phase = 0 ∨ (kind = 3 ∧ s.phase = 1)
  fd : ¬ (s.fresh = true ∧ s.done = true)
  va : ∀ v, v < N → (-1 ≤ (aV s v).1 ∧ (aV s v).1 ≤ capF kind N s.step) ∧ (-1 ≤ (aV s v).2 ∧ (aV s v).2 < (N : Int))
  ms : ∀ v, v < N → (mL s v).Pairwise (· ≤ ·)
  ma : ∀ v, v < N → ∀ m ∈ mL s v, 0 ≤ m ∧ m ≤ capF kind N s.step
  em : s.fresh = true ∨ s.done = true → ∀ v, v < N → mL s v = []
  sm : (s.mail.map List.length).sum ≤ 1000
theorem begin_good {kind N : Nat} (hN : 1 ≤ N) : GoodS kind N (beginF N) := by
  have e1 : ∀ v, v < N → aV (beginF N) v = (-1, -1) := fun v hv => by simp [aV, beginF, List.getD_eq_getElem?_getD, hv]
  have e2 : ∀ v, v < N → mL (beginF N) v = [] := fun v hv => by simp [mL, beginF, List.getD_eq_getElem?_getD, hv]
  refine ⟨by simp [beginF], by simp [beginF], .inl rfl, by simp [beginF], fun v hv => ?_, fun v hv => ?_, fun v hv m hm => ?_, fun _ v hv => e2 v hv, ?_⟩
  · rw [e1 v hv]
    have : -1 ≤ capF kind N (beginF N).step := by unfold capF; split <;> omega
    exact ⟨⟨Int.le_refl _, this⟩, Int.le_refl _, by show (-1 : Int) < N; omega⟩
  · rw [e2 v hv]; exact .nil
  · rw [e2 v hv] at hm; cases hm
  · simp [beginF]
/-- what a wake makes is within the bounds -/
theorem awk_bd {kind N : Nat} {src : Int} {s : RSt} (h : GoodS kind N s) {v : Nat} (hv : v < N) :
    (-1 ≤ (awk kind src s v).1.1 ∧ (awk kind src s v).1.1 ≤ capF kind N s.step) ∧ (-1 ≤ (awk kind src s v).1.2 ∧ (awk kind src s v).1.2 < (N : Int)) ∧ ((awk kind src s v).2 = true → 0 ≤ (awk kind src s v).1.1) := by
  obtain ⟨⟨a1, a2⟩, a3, a4⟩ := h.va v hv
  have hm := h.ma v hv
  have hcap : 0 ≤ capF kind N s.step ∧ (kind ≠ 1 → capF kind N s.step = (N : Int) - 1) := by
    unfold capF; split
    · exact ⟨by omega, fun h => absurd (by assumption) h⟩
    · exact ⟨by omega, fun _ => rfl⟩
  obtain ⟨hc0, hc1⟩ := hcap
  obtain ⟨l1, l2, l3, -, l4, l5, l6⟩ := lw_all (mL s v) (aV s v).1 a1 (fun m h => (hm m h).1)
  have lwb : lwA (aV s v).1 (mL s v) ≤ capF kind N s.step := by
    rcases l5 with h | h
    · omega
    · exact (hm _ h).2
  have lwp : lwS (aV s v).1 false (mL s v) = true → 0 ≤ lwA (aV s v).1 (mL s v) := fun h => by
    apply l6
    intro e; rw [e] at h; simp [lwS] at h
  unfold awk
  split
  · exact ⟨⟨a1, a2⟩, ⟨a3, a4⟩, fun h => by cases h⟩
  · unfold wkF
    split
    · split
      · refine ⟨⟨by dsimp only; split <;> omega, by dsimp only; split <;> omega⟩, ⟨by dsimp only; omega, by dsimp only; omega⟩, fun h => ?_⟩
        have : (v : Int) = src := by simpa using h
        simp [this]
      · exact ⟨⟨l2, lwb⟩, ⟨a3, a4⟩, lwp⟩
    · rename_i hk1
      have hc := hc1 hk1
      split
      · split
        · refine ⟨⟨by dsimp only; omega, by dsimp only; omega⟩, ⟨by dsimp only; omega, by dsimp only; omega⟩, fun _ => by dsimp only; omega⟩
        · exact ⟨⟨l2, lwb⟩, ⟨a3, a4⟩, lwp⟩
      · split
        · exact ⟨⟨a1, a2⟩, ⟨a3, a4⟩, fun h => by cases h⟩
        · split
          · split
            · refine ⟨⟨by dsimp only; omega, by dsimp only; omega⟩, ⟨by dsimp only; omega, by dsimp only; omega⟩, fun _ => by dsimp only; omega⟩
            · exact ⟨⟨l2, lwb⟩, ⟨a3, a4⟩, lwp⟩
          · split
            · rename_i hc2
              refine ⟨⟨a1, a2⟩, ⟨a1, by dsimp only; omega⟩, fun _ => ?_⟩
              dsimp only
              unfold bkB at hc2
              split at hc2
              · have := of_decide_eq_true hc2; omega
              · exact (hm _ (of_decide_eq_true hc2)).1
            · exact ⟨⟨a1, a2⟩, ⟨a3, a4⟩, fun h => by cases h⟩
theorem eMsgs_len (kind phase v : Nat) (x : Int) (e : Eg) : (eMsgs kind phase v x e).length ≤ 2 := by
  unfold eMsgs; rw [List.length_append]; (repeat' split) <;> simp
theorem flatMap_len_le {α β : Type} (f : α → List β) (k : Nat) : ∀ (l : List α), (∀ x ∈ l, (f x).length ≤ k) → (l.flatMap f).length ≤ l.length * k
  | [], _ => by simp
  | a :: l, h => by
    rw [List.flatMap_cons, List.length_append, List.length_cons, Nat.succ_mul]
    have := h a (by simp)
    have := flatMap_len_le f k l (fun x hx => h x (by simp [hx]))
    omega
theorem upMsgs_len (kind : Nat) (src : Int) (E : List Eg) (s : RSt) (k : Nat) : (upMsgs kind src E s k).length ≤ k * (E.length * 2) := by
  unfold upMsgs
  have := flatMap_len_le (vMsgs kind src E s) (E.length * 2) (List.range k) (fun v _ => by
    unfold vMsgs; split
    · exact flatMap_len_le _ 2 E (fun e _ => eMsgs_len _ _ _ _ _)
    · simp)
  rwa [List.length_range] at this
theorem sum_map_add (f g : Nat → Nat) : ∀ (l : List Nat), (l.map fun t => f t + g t).sum = (l.map f).sum + (l.map g).sum
  | [] => rfl
  | a :: l => by simp only [List.map_cons, List.sum_cons, sum_map_add f g l]; omega
theorem sum_zero : ∀ (l : List Nat), (∀ x ∈ l, x = 0) → l.sum = 0
  | [], _ => rfl
  | a :: l, h => by
    rw [List.sum_cons, sum_zero l (fun x hx => h x (by simp [hx])), h a (by simp)]
theorem sum_one (t : Nat) : ∀ N, t < N → ((List.range N).map fun x => if t == x then 1 else 0).sum = 1
  | 0, h => absurd h (by omega)
  | N + 1, h => by
    rw [List.range_succ, List.map_append, List.sum_append]
    by_cases e : t = N
    · subst e
      have : ((List.range t).map fun x => if t == x then 1 else 0).sum = 0 := by
        apply sum_zero
        intro y hy
        obtain ⟨x, hx, rfl⟩ := List.mem_map.1 hy
        have := List.mem_range.1 hx
        rw [if_neg (by simp; omega)]
      rw [this]
      simp
    · rw [sum_one t N (by omega)]
      have e2 : (t == N) = false := by simpa using e
      simp only [List.map_cons, List.map_nil, List.sum_cons, List.sum_nil, e2, Bool.false_eq_true, if_false, Nat.add_zero]
/-- all that is said lies in the boxes -/
theorem box_sum {N : Nat} : ∀ (ms : List (Nat × Int)), (∀ m ∈ ms, m.1 < N) → ((List.range N).map fun t => (boxOf ms t).length).sum = ms.length
  | [], _ => by
    apply sum_zero
    intro y hy
    obtain ⟨x, -, rfl⟩ := List.mem_map.1 hy
    rfl
  | m :: ms, h => by
    have ih := box_sum ms (fun x hx => h x (by simp [hx]))
    have e : (fun t => (boxOf (m :: ms) t).length) = fun t => (if m.1 == t then 1 else 0) + (boxOf ms t).length := by
      funext t
      unfold boxOf
      rw [List.filter_cons]
      split
      · simp; omega
      · simp
    rw [e, sum_map_add, ih, sum_one _ _ (h m (by simp)), List.length_cons]
    omega
theorem upMsgs_lt {kind : Nat} {src : Int} {N : Nat} {E : List Eg} (hG : InG N E) {s : RSt} {k : Nat} : ∀ m ∈ upMsgs kind src E s k, m.1 < N := fun m hm => by
  obtain ⟨t, x⟩ := m
  obtain ⟨u, w, hr, -, -⟩ := mem_upMsgs.1 hm
  exact (RA.ok hG u t w hr).2.1
theorem nMail_sum {kind : Nat} {src : Int} {N : Nat} {E : List Eg} (hG : InG N E) (s : RSt) : ((nMail kind src N E s).map List.length).sum = (upMsgs kind src E s N).length := by
  rw [← box_sum _ (upMsgs_lt hG)]
  unfold nMail
  rw [List.map_map]
  congr 1
  apply List.map_congr_left
  intro t _
  exact sortI_len _
theorem next_good {kind N : Nat} {src : Int} {E : List Eg} {s : RSt} (hG : InG N E) (hN : 1 ≤ N ∧ N ≤ 10) (hE : E.length ≤ 20) (h : GoodS kind N s) : GoodS kind N (nextF kind src N E s) := by
  by_cases hd : s.done = true
  · have e : nextF kind src N E s = s := by unfold nextF; rw [if_pos hd]
    rw [e]; exact h
  have hd : s.done = false := by simpa using hd
  obtain ⟨e1, e2, e3⟩ := nextF_vals (kind := kind) (src := src) (N := N) (E := E) hd
  have hbd := fun v hv => awk_bd (src := src) h (v := v) hv
  have hcap : capF kind N s.step ≤ capF kind N (s.step + 1) := by unfold capF; split <;> omega
  have hph : (nextF kind src N E s).phase = 0 ∨ (kind = 3 ∧ (nextF kind src N E s).phase = 1) := by
    have := h.ph
    unfold nextF
    (repeat' split) <;> simp_all
  have hfd : ¬ ((nextF kind src N E s).fresh = true ∧ (nextF kind src N E s).done = true) := by
    unfold nextF
    rw [if_neg (by simp [hd])]
    (repeat' split) <;> simp
  have hem : (nextF kind src N E s).fresh = true ∨ (nextF kind src N E s).done = true → anyL (nMail kind src N E s) = false := by
    unfold nextF
    rw [if_neg (by simp [hd])]
    split
    · intro h; simp at h
    · intro _; simp_all
  refine ⟨by rw [e1]; simp [nVals], by rw [e2]; simp [nMail], hph, hfd, fun v hv => ?_, fun v hv => ?_, fun v hv m hm => ?_, fun hfd v hv => ?_, ?_⟩
  · rw [nextF_aV hd hv, e3]
    obtain ⟨⟨b1, b2⟩, b3, -⟩ := hbd v hv
    exact ⟨⟨b1, by omega⟩, b3⟩
  · unfold mL; rw [e2, nMail_at hv]; exact sortI_sorted _
  · obtain ⟨u, w, hr, ⟨hu, hs⟩, rfl⟩ := (nextF_mL hd hv m).1 hm
    obtain ⟨⟨b1, b2⟩, -, b3⟩ := hbd u hu
    have b3 := b3 hs
    have hw := (RA.ok hG u v w hr).2.2
    obtain ⟨w1, w2⟩ := RA.wt hG hr
    rw [e3]
    refine ⟨by omega, ?_⟩
    unfold capF at b2 ⊢
    split at b2
    · rename_i hk1
      rw [if_pos hk1]; omega
    · rename_i hk1
      have := w2 hk1
      rw [if_neg hk1]; omega
  · unfold mL; rw [e2]; exact anyL_false (hem hfd) v
  · rw [e2, nMail_sum hG]
    have := upMsgs_len kind src E s N
    have : N * (E.length * 2) ≤ 10 * 40 := Nat.mul_le_mul hN.2 (by omega)
    omega
end Go.Proofs.Ytiaflhlfodcbjaa
