/- What a board is: reports. No program in sight. -/
import Derived.Test.YtmadpjmlcooinaaPPut
namespace Go.Proofs.Ytmadpjmlcooinaa
/-- a report -/
structure Rp where
  wk : Nat
  ep : Nat
  st : Nat
  sent : List Nat
  got : List Nat
  wa : Nat
  op : Nat
/-- a report's numbers are those of a board of W workers -/
structure RpOk (W : Nat) (r : Rp) : Prop where
  wk : r.wk < W
  sl : r.sent.length = W
  gl : r.got.length = W
  sb : ∀ x ∈ r.sent, x ≤ 1000
  gb : ∀ x ∈ r.got, x ≤ 1000
  wa : r.wa ≤ 1000
  op : r.op ≤ 1000
/-- and it is of this round -/
def RpNow (W : Nat) (r : Rp) : Prop := RpOk W r ∧ r.ep = 2 ∧ r.st = 3
/-- a board's reports: of this round, of one worker each -/
structure BdOk (W : Nat) (rs : List Rp) : Prop where
  now : ∀ r ∈ rs, RpNow W r
  one : rs.Pairwise (fun a b => a.wk ≠ b.wk)
  len : rs.length ≤ W
theorem pigeon {W : Nat} {l : List Nat} (h1 : l.Nodup) (h2 : ∀ x ∈ l, x < W) : l.length ≤ W := by
  have h4 := h1.length_le_of_subset (l₂ := List.range W) (fun x hx => List.mem_range.2 (h2 x hx))
  simpa using h4
end Go.Proofs.Ytmadpjmlcooinaa
