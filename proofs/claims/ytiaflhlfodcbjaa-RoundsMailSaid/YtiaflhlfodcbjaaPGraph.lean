/- The plain laws of graphs: order of edges, reversing, hops, reaching, joining. No program in sight. -/
import Derived.Test.YtiaflhlfodcbjaaCmp
import Derived.Shelf.SlSortCmp.InsertionK
import Derived.Deep.RegionHeld3
namespace Go.Proofs.Ytiaflhlfodcbjaa
open Go.RowKit Go.Sort Go.Proofs
theorem cell_drew {w : World} {a : Addr} {u : Value} (h : w.cell? a = some u) : w.drew.cell? a = some u := h
def encM (m : Nat × Nat) : List Value := [.int .i64 (m.1 : Int), .int .i64 (m.2 : Int)]
/-- comparing by two numbers, one behind the other -/
def cfM (x y : Nat × Nat) : Int := orL [Lib.compareInt x.1 y.1, Lib.compareInt x.2 y.2]
end Go.Proofs.Ytiaflhlfodcbjaa
namespace Go.Proofs.Ytiaflhlfodcbjaa
open Go.Sort Go.Proofs
theorem cmpI_lt (x y : Int) : Lib.compareInt x y < 0 ↔ x < y := by
  unfold Lib.compareInt
  split
  · omega
  · split <;> omega
theorem cmpI_eq (x y : Int) : Lib.compareInt x y = 0 ↔ x = y := by
  unfold Lib.compareInt
  split
  · omega
  · split <;> omega
theorem sorted_perm_eq {α : Type} {le : α → α → Prop} (anti : ∀ a b, le a b → le b a → a = b) : ∀ {l l' : List α}, l.Perm l' → l.Pairwise le → l'.Pairwise le → l = l' := by
  intro l
  induction l with
  | nil => intro l' hp _ _; exact (List.nil_perm.1 hp).symm
  | cons a l ih =>
    intro l' hp h1 h2
    cases l' with
    | nil => exact absurd hp.length_eq (by simp)
    | cons b l' =>
      have hab : a = b := by
        rcases List.mem_cons.1 (hp.mem_iff.1 (List.mem_cons_self (a := a) (l := l))) with h | h
        · exact h
        · rcases List.mem_cons.1 (hp.mem_iff.2 (List.mem_cons_self (a := b) (l := l'))) with h' | h'
          · exact h'.symm
          · exact anti a b ((List.pairwise_cons.1 h1).1 b h') ((List.pairwise_cons.1 h2).1 a h)
      subst hab
      rw [ih (List.Perm.cons_inv hp) (List.pairwise_cons.1 h1).2 (List.pairwise_cons.1 h2).2]
section
variable {α : Type} {cf : α → α → Int}
def leO (cf : α → α → Int) (x y : α) : Bool := !(ltOf cf) y x
/-- in order -/
def srt (cf : α → α → Int) (l : List α) : List α := l.mergeSort (leO cf)
theorem srt_len (l : List α) : (srt cf l).length = l.length := List.length_mergeSort l
theorem srt_perm (l : List α) : (srt cf l).Perm l := List.mergeSort_perm l (leO cf)
theorem leO_trans (hO : SWO (ltOf cf)) (a b c : α) (h1 : leO cf a b = true) (h2 : leO cf b c = true) : leO cf a c = true := by
  unfold leO at *
  simp only [Bool.not_eq_true'] at *
  exact hO.ntrans c b a h2 h1
theorem leO_total (hO : SWO (ltOf cf)) (a b : α) : (leO cf a b || leO cf b a) = true := by
  unfold leO
  cases h1 : ltOf cf b a
  · rfl
  · cases h2 : ltOf cf a b
    · rfl
    · have := hO.trans a b a h2 h1
      rw [hO.irrefl] at this
      cases this
theorem srt_sorted (hO : SWO (ltOf cf)) (l : List α) : (srt cf l).Pairwise (fun a b => leO cf a b = true) := List.pairwise_mergeSort (leO_trans hO) (leO_total hO) l
theorem srt_unique (hO : SWO (ltOf cf)) (hT : ∀ x y, ltOf cf x y = false → ltOf cf y x = false → x = y) {l s : List α} (hp : s.Perm l) (hs : s.Pairwise (fun a b => leO cf a b = true)) : srt cf l = s :=
  sorted_perm_eq (fun a b h1 h2 => by
    unfold leO at h1 h2
    simp only [Bool.not_eq_true'] at h1 h2
    exact hT a b h2 h1) ((srt_perm l).trans hp.symm) (srt_sorted hO l) hs
theorem srt_perm_eq (hO : SWO (ltOf cf)) (hT : ∀ x y, ltOf cf x y = false → ltOf cf y x = false → x = y) {l l' : List α} (hp : l.Perm l') : srt cf l = srt cf l' :=
  srt_unique hO hT ((srt_perm l').trans hp.symm) (srt_sorted hO l')
end
theorem ltM (x y : Nat × Nat) : ltOf cfM x y = decide (x.1 < y.1 ∨ (x.1 = y.1 ∧ x.2 < y.2)) := by
  unfold ltOf cfM orL orL orL
  rw [decide_eq_decide]
  by_cases h : Lib.compareInt (x.1 : Int) (y.1 : Int) = 0
  · have h1 := (cmpI_eq _ _).1 h
    rw [if_pos h]
    by_cases h' : Lib.compareInt (x.2 : Int) (y.2 : Int) = 0
    · have h2 := (cmpI_eq _ _).1 h'
      rw [if_pos h']; omega
    · rw [if_neg h', cmpI_lt]; omega
  · have h1 : ¬ (x.1 : Int) = y.1 := fun e => h ((cmpI_eq _ _).2 e)
    rw [if_neg h, cmpI_lt]; omega
theorem swoM : SWO (ltOf cfM) where
  irrefl x := by rw [ltM]; simp
  trans x y z h1 h2 := by rw [ltM] at *; simp at *; omega
  ntrans x y z h1 h2 := by rw [ltM] at *; simp at *; omega
theorem totM (x y : Nat × Nat) (h1 : ltOf cfM x y = false) (h2 : ltOf cfM y x = false) : x = y := by
  rw [ltM] at *
  simp at h1 h2
  obtain ⟨a, b⟩ := x
  obtain ⟨c, d⟩ := y
  simp at h1 h2
  have e1 : a = c := by omega
  have e2 : b = d := by omega
  rw [e1, e2]
theorem leM_iff (x y : Nat × Nat) : leO cfM x y = true ↔ (x.1 < y.1 ∨ (x.1 = y.1 ∧ x.2 ≤ y.2)) := by
  unfold leO; rw [ltM]; simp; omega
end Go.Proofs.Ytiaflhlfodcbjaa
namespace Go.Proofs.Ytiaflhlfodcbjaa
open Go.Sort Go.Proofs
/-- an edge: from, to, weight -/
abbrev Eg := Nat × Nat × Nat
/-- comparing by three numbers, one behind the other -/
def cfE (x y : Eg) : Int := orL [Lib.compareInt x.1 y.1, Lib.compareInt x.2.1 y.2.1, Lib.compareInt x.2.2 y.2.2]
theorem ltE (x y : Eg) : ltOf cfE x y = decide (x.1 < y.1 ∨ (x.1 = y.1 ∧ (x.2.1 < y.2.1 ∨ (x.2.1 = y.2.1 ∧ x.2.2 < y.2.2)))) := by
  unfold ltOf cfE orL orL orL orL
  rw [decide_eq_decide]
  by_cases h : Lib.compareInt (x.1 : Int) (y.1 : Int) = 0
  · have h1 := (cmpI_eq _ _).1 h
    rw [if_pos h]
    by_cases h' : Lib.compareInt (x.2.1 : Int) (y.2.1 : Int) = 0
    · have h2 := (cmpI_eq _ _).1 h'
      rw [if_pos h']
      by_cases h'' : Lib.compareInt (x.2.2 : Int) (y.2.2 : Int) = 0
      · have h3 := (cmpI_eq _ _).1 h''
        rw [if_pos h'']; omega
      · rw [if_neg h'', cmpI_lt]; omega
    · have h2 : ¬ (x.2.1 : Int) = y.2.1 := fun e => h' ((cmpI_eq _ _).2 e)
      rw [if_neg h', cmpI_lt]; omega
  · have h1 : ¬ (x.1 : Int) = y.1 := fun e => h ((cmpI_eq _ _).2 e)
    rw [if_neg h, cmpI_lt]; omega
theorem swoE : SWO (ltOf cfE) where
  irrefl x := by rw [ltE]; simp
  trans x y z h1 h2 := by rw [ltE] at *; simp at *; omega
  ntrans x y z h1 h2 := by rw [ltE] at *; simp at *; omega
theorem totE (x y : Eg) (h1 : ltOf cfE x y = false) (h2 : ltOf cfE y x = false) : x = y := by
  rw [ltE] at *
  simp at h1 h2
  obtain ⟨a, b, e⟩ := x
  obtain ⟨c, d, f⟩ := y
  simp at h1 h2
  have e1 : a = c := by omega
  have e2 : b = d := by omega
  have e3 : e = f := by omega
  rw [e1, e2, e3]
theorem leE_iff (x y : Eg) : leO cfE x y = true ↔ (x.1 < y.1 ∨ (x.1 = y.1 ∧ (x.2.1 < y.2.1 ∨ (x.2.1 = y.2.1 ∧ x.2.2 ≤ y.2.2)))) := by
  unfold leO; rw [ltE]; simp; omega
def flipE (e : Eg) : Eg := (e.2.1, e.1, e.2.2)
def revL (l : List Eg) : List Eg := l.map flipE
theorem flip_flip (e : Eg) : flipE (flipE e) = e := rfl
theorem rev_rev (l : List Eg) : revL (revL l) = l := by
  unfold revL; rw [List.map_map]
  exact (List.map_congr_left (fun e _ => flip_flip e)).trans (List.map_id' l)
theorem rev_twice (l : List Eg) : srt cfE (revL (srt cfE (revL l))) = srt cfE l := by
  refine srt_perm_eq swoE totE ?_
  refine ((srt_perm (cf := cfE) (revL l)).map flipE).trans ?_
  show (revL (revL l)).Perm l
  rw [rev_rev]
/-- the ends of edges lie in the graph -/
def InG (N : Nat) (l : List Eg) : Prop := ∀ e ∈ l, e.1 < N ∧ e.2.1 < N ∧ e.2.2 < 10
theorem InG.rev {N : Nat} {l : List Eg} (h : InG N l) : InG N (revL l) := by
  intro e he
  obtain ⟨x, hx, rfl⟩ := List.mem_map.1 he
  have := h x hx
  exact ⟨this.2.1, this.1, this.2.2⟩
theorem InG.perm {N : Nat} {l r : List Eg} (h : InG N l) (hp : r.Perm l) : InG N r := fun e he => h e (hp.mem_iff.1 he)
theorem InG.srt {N : Nat} {l : List Eg} (h : InG N l) : InG N (srt cfE l) := h.perm (srt_perm l)
/-- hops from a vertex -/
def hopsL (l : List Eg) (v : Nat) : List (Nat × Nat) := (l.filter fun e => e.1 == v).map fun e => e.2
theorem filter_lt_succ (k : Nat) : ∀ (s : List Eg), s.Pairwise (fun a b => a.1 ≤ b.1) → s.filter (fun e => decide (e.1 < k + 1)) = s.filter (fun e => decide (e.1 < k)) ++ s.filter (fun e => e.1 == k) := by
  intro s
  induction s with
  | nil => intro _; rfl
  | cons a s ih =>
    intro h
    obtain ⟨h1, h2⟩ := List.pairwise_cons.1 h
    have ih := ih h2
    by_cases ha : a.1 < k
    · have e1 : decide (a.1 < k + 1) = true := by simp; omega
      have e2 : decide (a.1 < k) = true := by simp; omega
      have e3 : (a.1 == k) = false := by simp; omega
      rw [List.filter_cons, List.filter_cons, List.filter_cons, e1, e2, e3, ih]; rfl
    · have hn : s.filter (fun e => decide (e.1 < k)) = [] := List.filter_eq_nil_iff.2 fun x hx => by have := h1 x hx; simp; omega
      have e2 : decide (a.1 < k) = false := by simp; omega
      rw [hn, List.nil_append] at ih
      rw [List.filter_cons, List.filter_cons, List.filter_cons, e2, ih, hn]
      by_cases he : a.1 = k
      · have e1 : decide (a.1 < k + 1) = true := by simp; omega
        have e3 : (a.1 == k) = true := by simp [he]
        rw [e1, e3]; rfl
      · have e1 : decide (a.1 < k + 1) = false := by simp; omega
        have e3 : (a.1 == k) = false := by simp [he]
        rw [e1, e3]; rfl
theorem srtE_from (l : List Eg) : (srt cfE l).Pairwise (fun a b => a.1 ≤ b.1) := (srt_sorted swoE l).imp fun {a b} h => by
  have := (leE_iff a b).1 h; omega
theorem filter_all {N : Nat} {l : List Eg} (h : InG N l) : l.filter (fun e => decide (e.1 < N)) = l := List.filter_eq_self.2 fun e he => by simpa using (h e he).1
theorem filter_none (l : List Eg) : l.filter (fun e => decide (e.1 < 0)) = [] := List.filter_eq_nil_iff.2 fun e _ => by simp
/-- hops, made edges again -/
theorem hops_edges (l : List Eg) (v : Nat) : (hopsL l v).map (fun h => (v, h)) = l.filter fun e => e.1 == v := by
  unfold hopsL
  rw [List.map_map]
  refine (List.map_congr_left fun e he => ?_).trans (List.map_id' _)
  have := (List.mem_filter.1 he).2
  simp at this
  show (v, e.2) = e
  rw [← this]
/-- how many edges go from vertices below k -/
def fromBelow (l : List Eg) (k : Nat) : Nat := l.countP fun e => decide (e.1 < k)
def degL (l : List Eg) (v : Nat) : Nat := l.countP fun e => e.1 == v
theorem fromBelow_succ (l : List Eg) (k : Nat) : fromBelow l (k + 1) = fromBelow l k + degL l k := by
  induction l with
  | nil => rfl
  | cons a l ih =>
    unfold fromBelow degL at *
    rw [List.countP_cons, List.countP_cons, List.countP_cons, ih]
    simp only [decide_eq_true_eq, beq_iff_eq]
    repeat' split
    all_goals omega
theorem fromBelow_all {N : Nat} {l : List Eg} (h : InG N l) : fromBelow l N = l.length := List.countP_eq_length.2 fun e he => by simpa using (h e he).1
theorem fromBelow_zero (l : List Eg) : fromBelow l 0 = 0 := List.countP_eq_zero.2 fun e _ => by simp
theorem degL_srt (l : List Eg) (v : Nat) : degL (srt cfE l) v = degL l v := (srt_perm l).countP_eq _
theorem hopsL_len (l : List Eg) (v : Nat) : (hopsL l v).length = degL l v := by
  unfold hopsL degL; rw [List.length_map, List.countP_eq_length_filter]
/-- what is reached from a vertex -/
inductive Rch (l : List Eg) (v : Nat) : Nat → Prop
  | here : Rch l v v
  | on {x y w : Nat} : Rch l v x → (x, y, w) ∈ l → Rch l v y
theorem Rch.trans {l : List Eg} {u v w : Nat} (h1 : Rch l u v) (h2 : Rch l v w) : Rch l u w := by
  induction h2 with
  | here => exact h1
  | on _ he ih => exact .on ih he
theorem Rch.lt {N : Nat} {l : List Eg} (hG : InG N l) {v x : Nat} (hv : v < N) (h : Rch l v x) : x < N := by
  cases h with
  | here => exact hv
  | on _ he => exact (hG _ he).2.1
theorem Rch.mono {l r : List Eg} (h : ∀ e ∈ l, e ∈ r) {v x : Nat} (hr : Rch l v x) : Rch r v x := by
  induction hr with
  | here => exact .here
  | on _ he ih => exact .on ih (h _ he)
theorem Rch.flip {l : List Eg} {v x : Nat} (h : Rch l v x) : Rch (revL l) x v := by
  induction h with
  | here => exact .here
  | on _ he ih => exact (Rch.on .here (List.mem_map.2 ⟨_, he, rfl⟩)).trans ih
theorem rch_perm {l r : List Eg} (hp : l.Perm r) (v x : Nat) : Rch l v x ↔ Rch r v x := ⟨Rch.mono fun _ h => hp.mem_iff.1 h, Rch.mono fun _ h => hp.mem_iff.2 h⟩
theorem rch_rev (l : List Eg) (v x : Nat) : Rch (revL l) v x ↔ Rch l x v := ⟨fun h => by have := h.flip; rwa [rev_rev] at this, Rch.flip⟩
open Classical in
/-- which vertices are reached -/
noncomputable def reachL (N : Nat) (l : List Eg) (v : Nat) : List Bool := (List.range N).map fun x => decide (Rch l v x)
theorem reachL_len (N : Nat) (l : List Eg) (v : Nat) : (reachL N l v).length = N := by simp [reachL]
theorem reachL_at {N : Nat} {l : List Eg} {v x : Nat} (hx : x < N) : (reachL N l v)[x]? = some true ↔ Rch l v x := by
  unfold reachL
  rw [List.getElem?_map, List.getElem?_range hx]
  simp
open Classical in
theorem reachL_get {N : Nat} {l : List Eg} {v x : Nat} (hx : x < N) : (reachL N l v)[x]? = some (decide (Rch l v x)) := by
  unfold reachL
  rw [List.getElem?_map, List.getElem?_range hx]; rfl
/-- what the search knows: seen, and still to do -/
structure Srch (N : Nat) (l : List Eg) (v : Nat) (seen : List Bool) (todo : List Nat) (part : List Nat) : Prop where
  len : seen.length = N
  first : seen[v]? = some true
  sound : ∀ x, seen[x]? = some true → Rch l v x
  todoSeen : ∀ x ∈ todo, seen[x]? = some true
  /-- a vertex that is seen, not to do, and not under way: all its ends are seen -/
  done : ∀ x, seen[x]? = some true → x ∉ todo → x ∉ part → ∀ y w, (x, y, w) ∈ l → seen[y]? = some true
theorem Srch.end {N : Nat} {l : List Eg} {v : Nat} {seen : List Bool} (h : Srch N l v seen [] []) : seen = reachL N l v := by
  have hcl : ∀ x, Rch l v x → seen[x]? = some true := by
    intro x hx
    induction hx with
    | here => exact h.first
    | on _ he ih => exact h.done _ ih (by simp) (by simp) _ _ he
  apply List.ext_getElem?
  intro x
  by_cases hx : x < N
  · by_cases hr : Rch l v x
    · rw [hcl x hr, (reachL_at hx).2 hr]
    · rw [reachL_get hx]
      have hl : x < seen.length := by rw [h.len]; exact hx
      have h1 : ¬ seen[x] = true := fun e => hr (h.sound x (by rw [List.getElem?_eq_getElem hl, e]))
      rw [List.getElem?_eq_getElem hl]
      simp [hr, h1]
  · rw [List.getElem?_eq_none (by rw [h.len]; omega), List.getElem?_eq_none (by rw [reachL_len]; omega)]
theorem Srch.start {N : Nat} {l : List Eg} {v : Nat} (hv : v < N) : Srch N l v ((List.replicate N false).set v true) [v] [] where
  len := by simp
  first := by rw [List.getElem?_set]; simp [hv]
  sound x hx := by
    rw [List.getElem?_set] at hx
    split at hx
    · rename_i h; subst h; exact .here
    · rw [List.getElem?_replicate] at hx; split at hx <;> simp at hx
  todoSeen x hx := by
    simp at hx; subst hx
    rw [List.getElem?_set]; simp [hv]
  done x hx hn _ := by
    rw [List.getElem?_set] at hx
    split at hx
    · rename_i h; subst h; simp at hn
    · rw [List.getElem?_replicate] at hx; split at hx <;> simp at hx
/-- the last one to do is taken up -/
theorem Srch.pop {N : Nat} {l : List Eg} {v u : Nat} {seen : List Bool} {todo : List Nat} (h : Srch N l v seen (todo ++ [u]) []) : Srch N l v seen todo [u] where
  len := h.len
  first := h.first
  sound := h.sound
  todoSeen x hx := h.todoSeen x (by simp [hx])
  done x hx hn hp := h.done x hx (by simp at hp ⊢; exact ⟨hn, hp⟩) (by simp)
/-- all ends of the one under way were looked at -/
theorem Srch.over {N : Nat} {l : List Eg} {v u : Nat} {seen : List Bool} {todo : List Nat} (h : Srch N l v seen todo [u]) (hu : ∀ y w, (u, y, w) ∈ l → seen[y]? = some true) : Srch N l v seen todo [] where
  len := h.len
  first := h.first
  sound := h.sound
  todoSeen := h.todoSeen
  done x hx hn _ := by
    by_cases hxu : x = u
    · subst hxu; exact hu
    · exact h.done x hx hn (by simpa using hxu)
/-- a vertex is seen for the first time -/
theorem Srch.push {N : Nat} {l : List Eg} {v u y w : Nat} {seen : List Bool} {todo : List Nat} (h : Srch N l v seen todo [u]) (hu : seen[u]? = some true) (he : (u, y, w) ∈ l) (hy : y < N) : Srch N l v (seen.set y true) (todo ++ [y]) [u] where
  len := by rw [List.length_set]; exact h.len
  first := by
    rw [List.getElem?_set]
    split
    · rw [if_pos (by rw [h.len]; exact hy)]
    · exact h.first
  sound x hx := by
    rw [List.getElem?_set] at hx
    split at hx
    · rename_i e; subst e; exact .on (h.sound u hu) he
    · exact h.sound x hx
  todoSeen x hx := by
    rw [List.getElem?_set]
    split
    · rw [if_pos (by rw [h.len]; exact hy)]
    · rename_i hne
      rcases List.mem_append.1 hx with hx | hx
      · exact h.todoSeen x hx
      · exact absurd (List.mem_singleton.1 hx).symm hne
  done x hx hn hp z w' hz := by
    have hxy : x ≠ y := fun e => hn (by simp [e])
    rw [List.getElem?_set, if_neg (fun e => hxy e.symm)] at hx
    have := h.done x hx (fun e => hn (by simp [e])) hp z w' hz
    rw [List.getElem?_set]
    split
    · rw [if_pos (by rw [h.len]; exact hy)]
    · exact this
/-- how much is not seen -/
def unseen (s : List Bool) : Nat := s.countP fun b => !b
theorem unseen_set {s : List Bool} {y : Nat} (hy : s[y]? = some false) : unseen (s.set y true) + 1 = unseen s := by
  induction s generalizing y with
  | nil => simp at hy
  | cons a s ih =>
    unfold unseen at *
    cases y with
    | zero => simp at hy; subst hy; simp
    | succ y =>
      have := ih (y := y) (by simpa using hy)
      rw [List.set_cons_succ, List.countP_cons, List.countP_cons]; omega
theorem hop_edge {l : List Eg} {u : Nat} {h : Nat × Nat} : h ∈ hopsL l u ↔ (u, h) ∈ l := by
  unfold hopsL
  constructor
  · intro hh
    obtain ⟨e, he, rfl⟩ := List.mem_map.1 hh
    obtain ⟨h1, h2⟩ := List.mem_filter.1 he
    simp at h2
    rw [← h2]; exact h1
  · intro hh
    exact List.mem_map.2 ⟨_, List.mem_filter.2 ⟨hh, by simp⟩, rfl⟩
end Go.Proofs.Ytiaflhlfodcbjaa
