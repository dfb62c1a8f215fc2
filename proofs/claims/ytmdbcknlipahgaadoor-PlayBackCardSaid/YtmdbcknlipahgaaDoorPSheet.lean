/- Sheets: what is shown and read: plain laws. No program walked. -/
import Derived.Test.YtmdbcknlipahgaaDoorPText
namespace Go.Proofs.YtmdbcknlipahgaaDoor
/-- an edge in raw numbers -/
abbrev Ge := Int × Int × Int
/-- what graph.Check answers -/
def chkF (N : Int) (E : List Ge) : Int :=
  if N < 0 ∨ 200 < N ∨ 600 < E.length then 1
  else if E.all (fun e => decide (0 ≤ e.1 ∧ e.1 < N ∧ 0 ≤ e.2.1 ∧ e.2.1 < N ∧ 0 ≤ e.2.2 ∧ e.2.2 ≤ 1099511627776)) then 0 else 2
def edgeL (e : Ge) : List UInt8 := lineL [e.1, e.2.1, e.2.2]
def showL (N : Int) (E : List Ge) : List UInt8 := lineL [N] ++ E.flatMap edgeL
/-- what a line behind the first adds -/
def edgeOf (l : List UInt8) : List Ge := match numsL l with
  | [a, b, c] => [(a, b, c)]
  | _ => []
def readL (s : List UInt8) : Int × List Ge := match linesL s with
  | [] => (0, [])
  | l :: ls => ((numsL l).headD 0, ls.flatMap edgeOf)
theorem chk_ok {N : Int} {E : List Ge} (h : chkF N E = 0) : 0 ≤ N ∧ N ≤ 200 ∧ E.length ≤ 600 ∧ ∀ e ∈ E, 0 ≤ e.1 ∧ e.1 < N ∧ 0 ≤ e.2.1 ∧ e.2.1 < N ∧ 0 ≤ e.2.2 ∧ e.2.2 ≤ 1099511627776 := by
  unfold chkF at h
  split at h
  · cases h
  · rename_i h1
    split at h
    · rename_i h2
      refine ⟨by omega, by omega, by omega, fun e he => ?_⟩
      exact of_decide_eq_true (List.all_eq_true.1 h2 e he)
    · cases h
theorem lines_edges : ∀ (E : List Ge), (∀ e ∈ E, 0 ≤ e.1 ∧ 0 ≤ e.2.1 ∧ 0 ≤ e.2.2) → linesL (E.flatMap edgeL) = E.map edgeL
  | [], _ => rfl
  | e :: E, h => by
    rw [List.flatMap_cons, List.map_cons]
    have he := h e (by simp)
    rw [edgeL, lines_line (by intro n hn; simp at hn; rcases hn with rfl | rfl | rfl; exact he.1; exact he.2.1; exact he.2.2), lines_edges E (fun x hx => h x (by simp [hx]))]
/-- a sheet that is right is read as it was shown -/
theorem read_show {N : Int} {E : List Ge} (h : chkF N E = 0) : readL (showL N E) = (N, E) := by
  obtain ⟨h1, h2, h3, h4⟩ := chk_ok h
  have hE : ∀ e ∈ E, 0 ≤ e.1 ∧ 0 ≤ e.2.1 ∧ 0 ≤ e.2.2 := fun e he => by have := h4 e he; omega
  unfold readL showL
  rw [lines_line (by intro n hn; simp at hn; subst hn; exact h1), lines_edges E hE]
  dsimp only
  rw [nums_line (by simp) (by intro n hn; simp at hn; subst hn; omega)]
  have : ∀ (E : List Ge), (∀ e ∈ E, 0 ≤ e.1 ∧ e.1 < N ∧ 0 ≤ e.2.1 ∧ e.2.1 < N ∧ 0 ≤ e.2.2 ∧ e.2.2 ≤ 1099511627776) → (E.map edgeL).flatMap edgeOf = E := by
    intro E
    induction E with
    | nil => intro _; rfl
    | cons e E ih =>
      intro h
      have he := h e (by simp)
      rw [List.map_cons, List.flatMap_cons, ih (fun x hx => h x (by simp [hx]))]
      have : edgeOf (edgeL e) = [e] := by
        unfold edgeOf edgeL
        rw [nums_line (by simp) (by intro n hn; simp at hn; rcases hn with rfl | rfl | rfl <;> omega)]
      rw [this]; rfl
  rw [this E h4]
  rfl
theorem lineL_len {l : List Int} (k : Nat) (hk : 1 ≤ k) (h : ∀ n ∈ l, 0 ≤ n ∧ n < (10 ^ k : Nat)) : (lineL l).length ≤ l.length * (k + 1) + 1 := by
  induction l with
  | nil => simp [lineL]
  | cons n l ih =>
    have hn := h n (by simp)
    have h1 := itoa_len hn.1 k hk hn.2
    have ih := ih (fun x hx => h x (by simp [hx]))
    cases l with
    | nil =>
      show (Go.Lib.itoa n ++ [10]).length ≤ _
      simp; omega
    | cons m l =>
      show (Go.Lib.itoa n ++ 32 :: lineL (m :: l)).length ≤ _
      rw [List.length_append, List.length_cons]
      simp only [List.length_cons] at ih ⊢
      rw [Nat.succ_mul]
      omega
end Go.Proofs.YtmdbcknlipahgaaDoor
