/-
  No cell of these rows narrows 'for every input' (looked for: loops, veiled, ifaces, maps, wideKeys, modest, calm, conditions, laid).
  DERIVED. THE GIVEN ROWS OF THIS SEAT. 11 by the template 'for every input the law returns true; each argument reads behind the call as it read before'; 0 by the template 'total and deterministic' (their statements: YtcaolnpkpialdaaTotals.lean).
  GIVEN WITH THE SEED: the statements are not yours to turn. If you find one false, say at which input.
  Laid BY PROGRAM, IN A SANDBOX (cutbox-rows.mjs): the forced cells as the released guide's own fill.sh prints them over the translation 3379468bfc55a174… (all of the seat's roots in one cut). By AI agents, Wed Nov 11 2026. No macro, syntax, notation, axiom, sorry.
-/
import Derived.Test.YtcaolnpkpialdaaChecked
import GoSem.Claim
import GoSem.ClaimJoined
import GoSem.ClaimMapViews
import Derived.JoinedTies
import Derived.KernelRfl
namespace Go.Proofs.Ytcaolnpkpialdaa
/- THE CELL 'sum', in the pinned program and in every row, IS THE sha256 OF THE DUMP (.gsa) THAT YtcaolnpkpialdaaProg.lean LOADS. Nothing in Lean hashes anything: it is a label: what it is worth is what the hold of that sum in a sandbox is worth. -/
noncomputable def Try.pinned : Pinned := { name := "ytcaolnpkpialdaa", sum := "3379468bfc55a174fc06f13c87d429e13b6c787328be26d13022fcb0afb4711c", checked := Try.checked }
namespace Rows
def none {H : Type} : Left H := { results := [], args := [] }

/-- 'pacelinekeep.DistTight': WHATEVER THE INPUT: true; the input reads as it did. -/
def distTightSpec : ChangeSpec := { name := "distTight", fn := fun _ => fun
  | [d1, d2, d3] => { results := [.lit (.bool true)], args := [d1, d2, d3] }
  | _ => none }
def distTightRow : OpenClaim := { program := "ytcaolnpkpialdaa", sum := "3379468bfc55a174fc06f13c87d429e13b6c787328be26d13022fcb0afb4711c", func := "paceline/pacelinekeep.DistTight", spec := "distTight", unfollowed := true, recurses := true, apart := false }
def DistTightSaid : Prop := distTightRow.holds Try.pinned (OpenSpec.ofChange distTightSpec)

/-- ITS FALSE NEIGHBOUR: 'it returns false'. Refute it at one input. -/
def distTightWrong : ChangeSpec := { name := "distTight", fn := fun _ => fun
  | [d1, d2, d3] => { results := [.lit (.bool false)], args := [d1, d2, d3] }
  | _ => none }
def DistTightWrongFalsely : Prop := distTightRow.holds Try.pinned (OpenSpec.ofChange distTightWrong)

/-- 'pacelinekeep.MergeSplits': WHATEVER THE INPUT: true; the input reads as it did. -/
def mergeSplitsSpec : ChangeSpec := { name := "mergeSplits", fn := fun _ => fun
  | [d1, d2] => { results := [.lit (.bool true)], args := [d1, d2] }
  | _ => none }
def mergeSplitsRow : OpenClaim := { program := "ytcaolnpkpialdaa", sum := "3379468bfc55a174fc06f13c87d429e13b6c787328be26d13022fcb0afb4711c", func := "paceline/pacelinekeep.MergeSplits", spec := "mergeSplits", unfollowed := true, recurses := true, apart := false }
def MergeSplitsSaid : Prop := mergeSplitsRow.holds Try.pinned (OpenSpec.ofChange mergeSplitsSpec)

/-- ITS FALSE NEIGHBOUR: 'it returns false'. Refute it at one input. -/
def mergeSplitsWrong : ChangeSpec := { name := "mergeSplits", fn := fun _ => fun
  | [d1, d2] => { results := [.lit (.bool false)], args := [d1, d2] }
  | _ => none }
def MergeSplitsWrongFalsely : Prop := mergeSplitsRow.holds Try.pinned (OpenSpec.ofChange mergeSplitsWrong)

/-- 'pacelinekeep.ProgFalls': WHATEVER THE INPUT: true; the input reads as it did. -/
def progFallsSpec : ChangeSpec := { name := "progFalls", fn := fun _ => fun
  | [d1, d2, d3, d4] => { results := [.lit (.bool true)], args := [d1, d2, d3, d4] }
  | _ => none }
def progFallsRow : OpenClaim := { program := "ytcaolnpkpialdaa", sum := "3379468bfc55a174fc06f13c87d429e13b6c787328be26d13022fcb0afb4711c", func := "paceline/pacelinekeep.ProgFalls", spec := "progFalls", unfollowed := true, recurses := true, apart := false }
def ProgFallsSaid : Prop := progFallsRow.holds Try.pinned (OpenSpec.ofChange progFallsSpec)

/-- ITS FALSE NEIGHBOUR: 'it returns false'. Refute it at one input. -/
def progFallsWrong : ChangeSpec := { name := "progFalls", fn := fun _ => fun
  | [d1, d2, d3, d4] => { results := [.lit (.bool false)], args := [d1, d2, d3, d4] }
  | _ => none }
def ProgFallsWrongFalsely : Prop := progFallsRow.holds Try.pinned (OpenSpec.ofChange progFallsWrong)

/-- 'pacelinekeep.ProgLeast': WHATEVER THE INPUT: true; the input reads as it did. -/
def progLeastSpec : ChangeSpec := { name := "progLeast", fn := fun _ => fun
  | [d1, d2, d3, d4] => { results := [.lit (.bool true)], args := [d1, d2, d3, d4] }
  | _ => none }
def progLeastRow : OpenClaim := { program := "ytcaolnpkpialdaa", sum := "3379468bfc55a174fc06f13c87d429e13b6c787328be26d13022fcb0afb4711c", func := "paceline/pacelinekeep.ProgLeast", spec := "progLeast", unfollowed := true, recurses := true, apart := false }
def ProgLeastSaid : Prop := progLeastRow.holds Try.pinned (OpenSpec.ofChange progLeastSpec)

/-- ITS FALSE NEIGHBOUR: 'it returns false'. Refute it at one input. -/
def progLeastWrong : ChangeSpec := { name := "progLeast", fn := fun _ => fun
  | [d1, d2, d3, d4] => { results := [.lit (.bool false)], args := [d1, d2, d3, d4] }
  | _ => none }
def ProgLeastWrongFalsely : Prop := progLeastRow.holds Try.pinned (OpenSpec.ofChange progLeastWrong)

/-- 'pacelinekeep.ProgLabel': WHATEVER THE INPUT: true; the input reads as it did. -/
def progLabelSpec : ChangeSpec := { name := "progLabel", fn := fun _ => fun
  | [d1, d2, d3, d4] => { results := [.lit (.bool true)], args := [d1, d2, d3, d4] }
  | _ => none }
def progLabelRow : OpenClaim := { program := "ytcaolnpkpialdaa", sum := "3379468bfc55a174fc06f13c87d429e13b6c787328be26d13022fcb0afb4711c", func := "paceline/pacelinekeep.ProgLabel", spec := "progLabel", unfollowed := true, recurses := true, apart := false }
def ProgLabelSaid : Prop := progLabelRow.holds Try.pinned (OpenSpec.ofChange progLabelSpec)

/-- ITS FALSE NEIGHBOUR: 'it returns false'. Refute it at one input. -/
def progLabelWrong : ChangeSpec := { name := "progLabel", fn := fun _ => fun
  | [d1, d2, d3, d4] => { results := [.lit (.bool false)], args := [d1, d2, d3, d4] }
  | _ => none }
def ProgLabelWrongFalsely : Prop := progLabelRow.holds Try.pinned (OpenSpec.ofChange progLabelWrong)

/-- 'pacelinekeep.CkptFixed': WHATEVER THE INPUT: true; the input reads as it did. -/
def ckptFixedSpec : ChangeSpec := { name := "ckptFixed", fn := fun _ => fun
  | [d] => { results := [.lit (.bool true)], args := [d] }
  | _ => none }
def ckptFixedRow : OpenClaim := { program := "ytcaolnpkpialdaa", sum := "3379468bfc55a174fc06f13c87d429e13b6c787328be26d13022fcb0afb4711c", func := "paceline/pacelinekeep.CkptFixed", spec := "ckptFixed", unfollowed := true, recurses := true, apart := false }
def CkptFixedSaid : Prop := ckptFixedRow.holds Try.pinned (OpenSpec.ofChange ckptFixedSpec)

/-- ITS FALSE NEIGHBOUR: 'it returns false'. Refute it at one input. -/
def ckptFixedWrong : ChangeSpec := { name := "ckptFixed", fn := fun _ => fun
  | [d] => { results := [.lit (.bool false)], args := [d] }
  | _ => none }
def CkptFixedWrongFalsely : Prop := ckptFixedRow.holds Try.pinned (OpenSpec.ofChange ckptFixedWrong)

/-- 'pacelinekeep.StoreBack': WHATEVER THE INPUT: true; the input reads as it did. -/
def storeBackSpec : ChangeSpec := { name := "storeBack", fn := fun _ => fun
  | [d1, d2, d3, d4] => { results := [.lit (.bool true)], args := [d1, d2, d3, d4] }
  | _ => none }
def storeBackRow : OpenClaim := { program := "ytcaolnpkpialdaa", sum := "3379468bfc55a174fc06f13c87d429e13b6c787328be26d13022fcb0afb4711c", func := "paceline/pacelinekeep.StoreBack", spec := "storeBack", unfollowed := true, recurses := true, apart := false }
def StoreBackSaid : Prop := storeBackRow.holds Try.pinned (OpenSpec.ofChange storeBackSpec)

/-- ITS FALSE NEIGHBOUR: 'it returns false'. Refute it at one input. -/
def storeBackWrong : ChangeSpec := { name := "storeBack", fn := fun _ => fun
  | [d1, d2, d3, d4] => { results := [.lit (.bool false)], args := [d1, d2, d3, d4] }
  | _ => none }
def StoreBackWrongFalsely : Prop := storeBackRow.holds Try.pinned (OpenSpec.ofChange storeBackWrong)

/-- 'pacelinekeep.StoreAll': WHATEVER THE INPUT: true; the input reads as it did. -/
def storeAllSpec : ChangeSpec := { name := "storeAll", fn := fun _ => fun
  | [d1, d2, d3] => { results := [.lit (.bool true)], args := [d1, d2, d3] }
  | _ => none }
def storeAllRow : OpenClaim := { program := "ytcaolnpkpialdaa", sum := "3379468bfc55a174fc06f13c87d429e13b6c787328be26d13022fcb0afb4711c", func := "paceline/pacelinekeep.StoreAll", spec := "storeAll", unfollowed := true, recurses := true, apart := false }
def StoreAllSaid : Prop := storeAllRow.holds Try.pinned (OpenSpec.ofChange storeAllSpec)

/-- ITS FALSE NEIGHBOUR: 'it returns false'. Refute it at one input. -/
def storeAllWrong : ChangeSpec := { name := "storeAll", fn := fun _ => fun
  | [d1, d2, d3] => { results := [.lit (.bool false)], args := [d1, d2, d3] }
  | _ => none }
def StoreAllWrongFalsely : Prop := storeAllRow.holds Try.pinned (OpenSpec.ofChange storeAllWrong)

/-- 'pacelinekeep.StoreOne': WHATEVER THE INPUT: true; the input reads as it did. -/
def storeOneSpec : ChangeSpec := { name := "storeOne", fn := fun _ => fun
  | [d1, d2, d3, d4, d5, d6] => { results := [.lit (.bool true)], args := [d1, d2, d3, d4, d5, d6] }
  | _ => none }
def storeOneRow : OpenClaim := { program := "ytcaolnpkpialdaa", sum := "3379468bfc55a174fc06f13c87d429e13b6c787328be26d13022fcb0afb4711c", func := "paceline/pacelinekeep.StoreOne", spec := "storeOne", unfollowed := true, recurses := true, apart := false }
def StoreOneSaid : Prop := storeOneRow.holds Try.pinned (OpenSpec.ofChange storeOneSpec)

/-- ITS FALSE NEIGHBOUR: 'it returns false'. Refute it at one input. -/
def storeOneWrong : ChangeSpec := { name := "storeOne", fn := fun _ => fun
  | [d1, d2, d3, d4, d5, d6] => { results := [.lit (.bool false)], args := [d1, d2, d3, d4, d5, d6] }
  | _ => none }
def StoreOneWrongFalsely : Prop := storeOneRow.holds Try.pinned (OpenSpec.ofChange storeOneWrong)

/-- 'pacelinekeep.QueueBudget': WHATEVER THE INPUT: true; the input reads as it did. -/
def queueBudgetSpec : ChangeSpec := { name := "queueBudget", fn := fun _ => fun
  | [d1, d2, d3, d4] => { results := [.lit (.bool true)], args := [d1, d2, d3, d4] }
  | _ => none }
def queueBudgetRow : OpenClaim := { program := "ytcaolnpkpialdaa", sum := "3379468bfc55a174fc06f13c87d429e13b6c787328be26d13022fcb0afb4711c", func := "paceline/pacelinekeep.QueueBudget", spec := "queueBudget", unfollowed := true, recurses := true, apart := false }
def QueueBudgetSaid : Prop := queueBudgetRow.holds Try.pinned (OpenSpec.ofChange queueBudgetSpec)

/-- ITS FALSE NEIGHBOUR: 'it returns false'. Refute it at one input. -/
def queueBudgetWrong : ChangeSpec := { name := "queueBudget", fn := fun _ => fun
  | [d1, d2, d3, d4] => { results := [.lit (.bool false)], args := [d1, d2, d3, d4] }
  | _ => none }
def QueueBudgetWrongFalsely : Prop := queueBudgetRow.holds Try.pinned (OpenSpec.ofChange queueBudgetWrong)

/-- 'pacelinekeep.QueueKeeps': WHATEVER THE INPUT: true; the input reads as it did. -/
def queueKeepsSpec : ChangeSpec := { name := "queueKeeps", fn := fun _ => fun
  | [d1, d2] => { results := [.lit (.bool true)], args := [d1, d2] }
  | _ => none }
def queueKeepsRow : OpenClaim := { program := "ytcaolnpkpialdaa", sum := "3379468bfc55a174fc06f13c87d429e13b6c787328be26d13022fcb0afb4711c", func := "paceline/pacelinekeep.QueueKeeps", spec := "queueKeeps", unfollowed := true, recurses := true, apart := false }
def QueueKeepsSaid : Prop := queueKeepsRow.holds Try.pinned (OpenSpec.ofChange queueKeepsSpec)

/-- ITS FALSE NEIGHBOUR: 'it returns false'. Refute it at one input. -/
def queueKeepsWrong : ChangeSpec := { name := "queueKeeps", fn := fun _ => fun
  | [d1, d2] => { results := [.lit (.bool false)], args := [d1, d2] }
  | _ => none }
def QueueKeepsWrongFalsely : Prop := queueKeepsRow.holds Try.pinned (OpenSpec.ofChange queueKeepsWrong)

/- THE SECOND FORM. 'bulk': how many values and letters a reading holds, each counted each time it is reached (what is shared counts as often as it is met; a slice's spare places count too). A statement '..UptoSaid' is the law's where the arguments, and the package variables that the reading takes, are together of bulk at most 1048576: NARROWER than '..Said'. Prove '..Said' where nothing that the law and all that it calls make is longer than what came in: it says more and counts as full. Else prove '..UptoSaid'. A law counts once. -/
mutual
def uptoBulk {H : Type} : DataW H → Nat
  | .lit (.string bytes) => bytes.length + 1
  | .lit _ => 1
  | .nil => 1
  | .ptr d => uptoBulk d + 1
  | .slice elems spare => uptoBulkAll elems + uptoBulkAll spare + 1
  | .agg parts => uptoBulkAll parts + 1
  | .iface _ d => uptoBulk d + 1
  | .map entries => uptoBulkEntries entries + 1
  | .held _ => 1
def uptoBulkAll {H : Type} : List (DataW H) → Nat
  | [] => 0
  | d :: r => uptoBulk d + uptoBulkAll r
def uptoBulkEntries {H : Type} : List (Lit × DataW H) → Nat
  | [] => 0
  | x :: r => uptoBulkEntry x + uptoBulkEntries r
def uptoBulkEntry {H : Type} : Lit × DataW H → Nat
  | (.string bytes, d) => bytes.length + uptoBulk d + 1
  | (_, d) => uptoBulk d + 1
 end
def uptoSmall : (H : Type) → List (DataW H) → Bool := fun _ ds => decide (uptoBulkAll ds ≤ 1048576)
def OpenSpec.upto (s : _root_.Go.ChangeSpec) : _root_.Go.OpenSpec := { _root_.Go.OpenSpec.ofChange s with cond := some uptoSmall }

/-- 'pacelinekeep.DistTight', WHERE WHAT IT READS IS OF BULK AT MOST 1048576: true; the input reads as it did. -/
def distTightUptoRow : OpenClaim := { program := "ytcaolnpkpialdaa", sum := "3379468bfc55a174fc06f13c87d429e13b6c787328be26d13022fcb0afb4711c", func := "paceline/pacelinekeep.DistTight", spec := "distTight", unfollowed := true, recurses := true, apart := false, narrowed := true }
def DistTightUptoSaid : Prop := distTightUptoRow.holds Try.pinned (OpenSpec.upto distTightSpec)

/-- 'pacelinekeep.MergeSplits', WHERE WHAT IT READS IS OF BULK AT MOST 1048576: true; the input reads as it did. -/
def mergeSplitsUptoRow : OpenClaim := { program := "ytcaolnpkpialdaa", sum := "3379468bfc55a174fc06f13c87d429e13b6c787328be26d13022fcb0afb4711c", func := "paceline/pacelinekeep.MergeSplits", spec := "mergeSplits", unfollowed := true, recurses := true, apart := false, narrowed := true }
def MergeSplitsUptoSaid : Prop := mergeSplitsUptoRow.holds Try.pinned (OpenSpec.upto mergeSplitsSpec)

/-- 'pacelinekeep.ProgFalls', WHERE WHAT IT READS IS OF BULK AT MOST 1048576: true; the input reads as it did. -/
def progFallsUptoRow : OpenClaim := { program := "ytcaolnpkpialdaa", sum := "3379468bfc55a174fc06f13c87d429e13b6c787328be26d13022fcb0afb4711c", func := "paceline/pacelinekeep.ProgFalls", spec := "progFalls", unfollowed := true, recurses := true, apart := false, narrowed := true }
def ProgFallsUptoSaid : Prop := progFallsUptoRow.holds Try.pinned (OpenSpec.upto progFallsSpec)

/-- 'pacelinekeep.ProgLeast', WHERE WHAT IT READS IS OF BULK AT MOST 1048576: true; the input reads as it did. -/
def progLeastUptoRow : OpenClaim := { program := "ytcaolnpkpialdaa", sum := "3379468bfc55a174fc06f13c87d429e13b6c787328be26d13022fcb0afb4711c", func := "paceline/pacelinekeep.ProgLeast", spec := "progLeast", unfollowed := true, recurses := true, apart := false, narrowed := true }
def ProgLeastUptoSaid : Prop := progLeastUptoRow.holds Try.pinned (OpenSpec.upto progLeastSpec)

/-- 'pacelinekeep.ProgLabel', WHERE WHAT IT READS IS OF BULK AT MOST 1048576: true; the input reads as it did. -/
def progLabelUptoRow : OpenClaim := { program := "ytcaolnpkpialdaa", sum := "3379468bfc55a174fc06f13c87d429e13b6c787328be26d13022fcb0afb4711c", func := "paceline/pacelinekeep.ProgLabel", spec := "progLabel", unfollowed := true, recurses := true, apart := false, narrowed := true }
def ProgLabelUptoSaid : Prop := progLabelUptoRow.holds Try.pinned (OpenSpec.upto progLabelSpec)

/-- 'pacelinekeep.CkptFixed', WHERE WHAT IT READS IS OF BULK AT MOST 1048576: true; the input reads as it did. -/
def ckptFixedUptoRow : OpenClaim := { program := "ytcaolnpkpialdaa", sum := "3379468bfc55a174fc06f13c87d429e13b6c787328be26d13022fcb0afb4711c", func := "paceline/pacelinekeep.CkptFixed", spec := "ckptFixed", unfollowed := true, recurses := true, apart := false, narrowed := true }
def CkptFixedUptoSaid : Prop := ckptFixedUptoRow.holds Try.pinned (OpenSpec.upto ckptFixedSpec)

/-- 'pacelinekeep.StoreBack', WHERE WHAT IT READS IS OF BULK AT MOST 1048576: true; the input reads as it did. -/
def storeBackUptoRow : OpenClaim := { program := "ytcaolnpkpialdaa", sum := "3379468bfc55a174fc06f13c87d429e13b6c787328be26d13022fcb0afb4711c", func := "paceline/pacelinekeep.StoreBack", spec := "storeBack", unfollowed := true, recurses := true, apart := false, narrowed := true }
def StoreBackUptoSaid : Prop := storeBackUptoRow.holds Try.pinned (OpenSpec.upto storeBackSpec)

/-- 'pacelinekeep.StoreAll', WHERE WHAT IT READS IS OF BULK AT MOST 1048576: true; the input reads as it did. -/
def storeAllUptoRow : OpenClaim := { program := "ytcaolnpkpialdaa", sum := "3379468bfc55a174fc06f13c87d429e13b6c787328be26d13022fcb0afb4711c", func := "paceline/pacelinekeep.StoreAll", spec := "storeAll", unfollowed := true, recurses := true, apart := false, narrowed := true }
def StoreAllUptoSaid : Prop := storeAllUptoRow.holds Try.pinned (OpenSpec.upto storeAllSpec)

/-- 'pacelinekeep.StoreOne', WHERE WHAT IT READS IS OF BULK AT MOST 1048576: true; the input reads as it did. -/
def storeOneUptoRow : OpenClaim := { program := "ytcaolnpkpialdaa", sum := "3379468bfc55a174fc06f13c87d429e13b6c787328be26d13022fcb0afb4711c", func := "paceline/pacelinekeep.StoreOne", spec := "storeOne", unfollowed := true, recurses := true, apart := false, narrowed := true }
def StoreOneUptoSaid : Prop := storeOneUptoRow.holds Try.pinned (OpenSpec.upto storeOneSpec)

/-- 'pacelinekeep.QueueBudget', WHERE WHAT IT READS IS OF BULK AT MOST 1048576: true; the input reads as it did. -/
def queueBudgetUptoRow : OpenClaim := { program := "ytcaolnpkpialdaa", sum := "3379468bfc55a174fc06f13c87d429e13b6c787328be26d13022fcb0afb4711c", func := "paceline/pacelinekeep.QueueBudget", spec := "queueBudget", unfollowed := true, recurses := true, apart := false, narrowed := true }
def QueueBudgetUptoSaid : Prop := queueBudgetUptoRow.holds Try.pinned (OpenSpec.upto queueBudgetSpec)

/-- 'pacelinekeep.QueueKeeps', WHERE WHAT IT READS IS OF BULK AT MOST 1048576: true; the input reads as it did. -/
def queueKeepsUptoRow : OpenClaim := { program := "ytcaolnpkpialdaa", sum := "3379468bfc55a174fc06f13c87d429e13b6c787328be26d13022fcb0afb4711c", func := "paceline/pacelinekeep.QueueKeeps", spec := "queueKeeps", unfollowed := true, recurses := true, apart := false, narrowed := true }
def QueueKeepsUptoSaid : Prop := queueKeepsUptoRow.holds Try.pinned (OpenSpec.upto queueKeepsSpec)

end Rows
end Go.Proofs.Ytcaolnpkpialdaa
