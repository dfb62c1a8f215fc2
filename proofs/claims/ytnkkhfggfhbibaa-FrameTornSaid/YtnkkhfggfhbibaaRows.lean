/-
  No cell of these rows narrows 'for every input' (looked for: loops, veiled, ifaces, maps, wideKeys, modest, calm, conditions, laid).
  DERIVED. THE GIVEN ROWS OF THIS SEAT. 10 by the template 'for every input the law returns true; each argument reads behind the call as it read before'; 0 by the template 'total and deterministic' (their statements: YtnkkhfggfhbibaaTotals.lean).
  GIVEN WITH THE SEED: the statements are not yours to turn. If you find one false, say at which input.
  Laid BY PROGRAM, IN A SANDBOX (cutbox-rows.mjs): the forced cells as the released guide's own fill.sh prints them over the translation cb19defc81d31360… (all of the seat's roots in one cut). By AI agents, Wed Nov 11 2026. No macro, syntax, notation, axiom, sorry.
-/
import Derived.Test.YtnkkhfggfhbibaaChecked
import GoSem.Claim
import GoSem.ClaimJoined
import GoSem.ClaimMapViews
import Derived.JoinedTies
import Derived.KernelRfl
namespace Go.Proofs.Ytnkkhfggfhbibaa
/- THE CELL 'sum', in the pinned program and in every row, IS THE sha256 OF THE DUMP (.gsa) THAT YtnkkhfggfhbibaaProg.lean LOADS. Nothing in Lean hashes anything: it is a label: what it is worth is what the hold of that sum in a sandbox is worth. -/
noncomputable def Try.pinned : Pinned := { name := "ytnkkhfggfhbibaa", sum := "cb19defc81d31360f9cc85aef8c8c2ede4dd00442e81590bc09b2fcf57e00bf7", checked := Try.checked }
namespace Rows
def none {H : Type} : Left H := { results := [], args := [] }

/-- 'pacelinekeep.ReachGoes': WHATEVER THE INPUT: true; the input reads as it did. -/
def reachGoesSpec : ChangeSpec := { name := "reachGoes", fn := fun _ => fun
  | [d1, d2, d3] => { results := [.lit (.bool true)], args := [d1, d2, d3] }
  | _ => none }
def reachGoesRow : OpenClaim := { program := "ytnkkhfggfhbibaa", sum := "cb19defc81d31360f9cc85aef8c8c2ede4dd00442e81590bc09b2fcf57e00bf7", func := "paceline/pacelinekeep.ReachGoes", spec := "reachGoes", unfollowed := true, recurses := true, apart := false }
def ReachGoesSaid : Prop := reachGoesRow.holds Try.pinned (OpenSpec.ofChange reachGoesSpec)

/-- ITS FALSE NEIGHBOUR: 'it returns false'. Refute it at one input. -/
def reachGoesWrong : ChangeSpec := { name := "reachGoes", fn := fun _ => fun
  | [d1, d2, d3] => { results := [.lit (.bool false)], args := [d1, d2, d3] }
  | _ => none }
def ReachGoesWrongFalsely : Prop := reachGoesRow.holds Try.pinned (OpenSpec.ofChange reachGoesWrong)

/-- 'pacelinekeep.WeakJoined': WHATEVER THE INPUT: true; the input reads as it did. -/
def weakJoinedSpec : ChangeSpec := { name := "weakJoined", fn := fun _ => fun
  | [d1, d2] => { results := [.lit (.bool true)], args := [d1, d2] }
  | _ => none }
def weakJoinedRow : OpenClaim := { program := "ytnkkhfggfhbibaa", sum := "cb19defc81d31360f9cc85aef8c8c2ede4dd00442e81590bc09b2fcf57e00bf7", func := "paceline/pacelinekeep.WeakJoined", spec := "weakJoined", unfollowed := true, recurses := true, apart := false }
def WeakJoinedSaid : Prop := weakJoinedRow.holds Try.pinned (OpenSpec.ofChange weakJoinedSpec)

/-- ITS FALSE NEIGHBOUR: 'it returns false'. Refute it at one input. -/
def weakJoinedWrong : ChangeSpec := { name := "weakJoined", fn := fun _ => fun
  | [d1, d2] => { results := [.lit (.bool false)], args := [d1, d2] }
  | _ => none }
def WeakJoinedWrongFalsely : Prop := weakJoinedRow.holds Try.pinned (OpenSpec.ofChange weakJoinedWrong)

/-- 'pacelinekeep.FrameTorn': WHATEVER THE INPUT: true; the input reads as it did. -/
def frameTornSpec : ChangeSpec := { name := "frameTorn", fn := fun _ => fun
  | [d1, d2] => { results := [.lit (.bool true)], args := [d1, d2] }
  | _ => none }
def frameTornRow : OpenClaim := { program := "ytnkkhfggfhbibaa", sum := "cb19defc81d31360f9cc85aef8c8c2ede4dd00442e81590bc09b2fcf57e00bf7", func := "paceline/pacelinekeep.FrameTorn", spec := "frameTorn", apart := false }
def FrameTornSaid : Prop := frameTornRow.holds Try.pinned (OpenSpec.ofChange frameTornSpec)

/-- ITS FALSE NEIGHBOUR: 'it returns false'. Refute it at one input. -/
def frameTornWrong : ChangeSpec := { name := "frameTorn", fn := fun _ => fun
  | [d1, d2] => { results := [.lit (.bool false)], args := [d1, d2] }
  | _ => none }
def FrameTornWrongFalsely : Prop := frameTornRow.holds Try.pinned (OpenSpec.ofChange frameTornWrong)

/-- 'pacelinekeep.MergeKeeps': WHATEVER THE INPUT: true; the input reads as it did. -/
def mergeKeepsSpec : ChangeSpec := { name := "mergeKeeps", fn := fun _ => fun
  | [d] => { results := [.lit (.bool true)], args := [d] }
  | _ => none }
def mergeKeepsRow : OpenClaim := { program := "ytnkkhfggfhbibaa", sum := "cb19defc81d31360f9cc85aef8c8c2ede4dd00442e81590bc09b2fcf57e00bf7", func := "paceline/pacelinekeep.MergeKeeps", spec := "mergeKeeps", unfollowed := true, recurses := true, apart := false }
def MergeKeepsSaid : Prop := mergeKeepsRow.holds Try.pinned (OpenSpec.ofChange mergeKeepsSpec)

/-- ITS FALSE NEIGHBOUR: 'it returns false'. Refute it at one input. -/
def mergeKeepsWrong : ChangeSpec := { name := "mergeKeeps", fn := fun _ => fun
  | [d] => { results := [.lit (.bool false)], args := [d] }
  | _ => none }
def MergeKeepsWrongFalsely : Prop := mergeKeepsRow.holds Try.pinned (OpenSpec.ofChange mergeKeepsWrong)

/-- 'pacelinekeep.ReverseTwice': WHATEVER THE INPUT: true; the input reads as it did. -/
def reverseTwiceSpec : ChangeSpec := { name := "reverseTwice", fn := fun _ => fun
  | [d1, d2] => { results := [.lit (.bool true)], args := [d1, d2] }
  | _ => none }
def reverseTwiceRow : OpenClaim := { program := "ytnkkhfggfhbibaa", sum := "cb19defc81d31360f9cc85aef8c8c2ede4dd00442e81590bc09b2fcf57e00bf7", func := "paceline/pacelinekeep.ReverseTwice", spec := "reverseTwice", unfollowed := true, recurses := true, apart := false }
def ReverseTwiceSaid : Prop := reverseTwiceRow.holds Try.pinned (OpenSpec.ofChange reverseTwiceSpec)

/-- ITS FALSE NEIGHBOUR: 'it returns false'. Refute it at one input. -/
def reverseTwiceWrong : ChangeSpec := { name := "reverseTwice", fn := fun _ => fun
  | [d1, d2] => { results := [.lit (.bool false)], args := [d1, d2] }
  | _ => none }
def ReverseTwiceWrongFalsely : Prop := reverseTwiceRow.holds Try.pinned (OpenSpec.ofChange reverseTwiceWrong)

/-- 'pacelinekeep.HopsAll': WHATEVER THE INPUT: true; the input reads as it did. -/
def hopsAllSpec : ChangeSpec := { name := "hopsAll", fn := fun _ => fun
  | [d1, d2] => { results := [.lit (.bool true)], args := [d1, d2] }
  | _ => none }
def hopsAllRow : OpenClaim := { program := "ytnkkhfggfhbibaa", sum := "cb19defc81d31360f9cc85aef8c8c2ede4dd00442e81590bc09b2fcf57e00bf7", func := "paceline/pacelinekeep.HopsAll", spec := "hopsAll", unfollowed := true, recurses := true, apart := false }
def HopsAllSaid : Prop := hopsAllRow.holds Try.pinned (OpenSpec.ofChange hopsAllSpec)

/-- ITS FALSE NEIGHBOUR: 'it returns false'. Refute it at one input. -/
def hopsAllWrong : ChangeSpec := { name := "hopsAll", fn := fun _ => fun
  | [d1, d2] => { results := [.lit (.bool false)], args := [d1, d2] }
  | _ => none }
def HopsAllWrongFalsely : Prop := hopsAllRow.holds Try.pinned (OpenSpec.ofChange hopsAllWrong)

/-- 'pacelinekeep.LeastLow': WHATEVER THE INPUT: true; the input reads as it did. -/
def leastLowSpec : ChangeSpec := { name := "leastLow", fn := fun _ => fun
  | [d] => { results := [.lit (.bool true)], args := [d] }
  | _ => none }
def leastLowRow : OpenClaim := { program := "ytnkkhfggfhbibaa", sum := "cb19defc81d31360f9cc85aef8c8c2ede4dd00442e81590bc09b2fcf57e00bf7", func := "paceline/pacelinekeep.LeastLow", spec := "leastLow", unfollowed := true, recurses := true, apart := false }
def LeastLowSaid : Prop := leastLowRow.holds Try.pinned (OpenSpec.ofChange leastLowSpec)

/-- ITS FALSE NEIGHBOUR: 'it returns false'. Refute it at one input. -/
def leastLowWrong : ChangeSpec := { name := "leastLow", fn := fun _ => fun
  | [d] => { results := [.lit (.bool false)], args := [d] }
  | _ => none }
def LeastLowWrongFalsely : Prop := leastLowRow.holds Try.pinned (OpenSpec.ofChange leastLowWrong)

/-- 'pacelinekeep.DegreesAdd': WHATEVER THE INPUT: true; the input reads as it did. -/
def degreesAddSpec : ChangeSpec := { name := "degreesAdd", fn := fun _ => fun
  | [d1, d2] => { results := [.lit (.bool true)], args := [d1, d2] }
  | _ => none }
def degreesAddRow : OpenClaim := { program := "ytnkkhfggfhbibaa", sum := "cb19defc81d31360f9cc85aef8c8c2ede4dd00442e81590bc09b2fcf57e00bf7", func := "paceline/pacelinekeep.DegreesAdd", spec := "degreesAdd", unfollowed := true, recurses := true, apart := false }
def DegreesAddSaid : Prop := degreesAddRow.holds Try.pinned (OpenSpec.ofChange degreesAddSpec)

/-- ITS FALSE NEIGHBOUR: 'it returns false'. Refute it at one input. -/
def degreesAddWrong : ChangeSpec := { name := "degreesAdd", fn := fun _ => fun
  | [d1, d2] => { results := [.lit (.bool false)], args := [d1, d2] }
  | _ => none }
def DegreesAddWrongFalsely : Prop := degreesAddRow.holds Try.pinned (OpenSpec.ofChange degreesAddWrong)

/-- 'pacelinekeep.StrongMutual': WHATEVER THE INPUT: true; the input reads as it did. -/
def strongMutualSpec : ChangeSpec := { name := "strongMutual", fn := fun _ => fun
  | [d1, d2, d3, d4] => { results := [.lit (.bool true)], args := [d1, d2, d3, d4] }
  | _ => none }
def strongMutualRow : OpenClaim := { program := "ytnkkhfggfhbibaa", sum := "cb19defc81d31360f9cc85aef8c8c2ede4dd00442e81590bc09b2fcf57e00bf7", func := "paceline/pacelinekeep.StrongMutual", spec := "strongMutual", unfollowed := true, recurses := true, apart := false }
def StrongMutualSaid : Prop := strongMutualRow.holds Try.pinned (OpenSpec.ofChange strongMutualSpec)

/-- ITS FALSE NEIGHBOUR: 'it returns false'. Refute it at one input. -/
def strongMutualWrong : ChangeSpec := { name := "strongMutual", fn := fun _ => fun
  | [d1, d2, d3, d4] => { results := [.lit (.bool false)], args := [d1, d2, d3, d4] }
  | _ => none }
def StrongMutualWrongFalsely : Prop := strongMutualRow.holds Try.pinned (OpenSpec.ofChange strongMutualWrong)

/-- 'pacelinekeep.QueueRuns': WHATEVER THE INPUT: true; the input reads as it did. -/
def queueRunsSpec : ChangeSpec := { name := "queueRuns", fn := fun _ => fun
  | [d1, d2] => { results := [.lit (.bool true)], args := [d1, d2] }
  | _ => none }
def queueRunsRow : OpenClaim := { program := "ytnkkhfggfhbibaa", sum := "cb19defc81d31360f9cc85aef8c8c2ede4dd00442e81590bc09b2fcf57e00bf7", func := "paceline/pacelinekeep.QueueRuns", spec := "queueRuns", unfollowed := true, recurses := true, apart := false }
def QueueRunsSaid : Prop := queueRunsRow.holds Try.pinned (OpenSpec.ofChange queueRunsSpec)

/-- ITS FALSE NEIGHBOUR: 'it returns false'. Refute it at one input. -/
def queueRunsWrong : ChangeSpec := { name := "queueRuns", fn := fun _ => fun
  | [d1, d2] => { results := [.lit (.bool false)], args := [d1, d2] }
  | _ => none }
def QueueRunsWrongFalsely : Prop := queueRunsRow.holds Try.pinned (OpenSpec.ofChange queueRunsWrong)

/- THE SECOND FORM. 'bulk': how many values and letters a reading holds, each counted each time it is reached (what is shared counts as often as it is met; a slice's spare places count too). A statement '..UptoSaid' is the law's where the arguments, and the package variables that the reading takes, are together of bulk at most 1048576: NARROWER than '..Said'. Prove '..Said' where nothing that the law and all that it calls make is longer than what came in: it says more and counts as full. Else prove '..UptoSaid'. A law counts once. -/
mutual
def uptoBulk {H : Type} : DataW H → Nat
  | .lit (.string bytes) => bytes.length + 1
  | .lit _ => 1
  | .nil => 1
  | .ptr d => uptoBulk d + 1
  | .slice elems spare => uptoBulkAll elems + uptoBulkAll spare + 1
  | .agg parts => uptoBulkAll parts + 1
  | .iface _ d => uptoBulk d + 1
  | .map entries => uptoBulkEntries entries + 1
  | .held _ => 1
def uptoBulkAll {H : Type} : List (DataW H) → Nat
  | [] => 0
  | d :: r => uptoBulk d + uptoBulkAll r
def uptoBulkEntries {H : Type} : List (Lit × DataW H) → Nat
  | [] => 0
  | x :: r => uptoBulkEntry x + uptoBulkEntries r
def uptoBulkEntry {H : Type} : Lit × DataW H → Nat
  | (.string bytes, d) => bytes.length + uptoBulk d + 1
  | (_, d) => uptoBulk d + 1
 end
def uptoSmall : (H : Type) → List (DataW H) → Bool := fun _ ds => decide (uptoBulkAll ds ≤ 1048576)
def OpenSpec.upto (s : _root_.Go.ChangeSpec) : _root_.Go.OpenSpec := { _root_.Go.OpenSpec.ofChange s with cond := some uptoSmall }

/-- 'pacelinekeep.ReachGoes', WHERE WHAT IT READS IS OF BULK AT MOST 1048576: true; the input reads as it did. -/
def reachGoesUptoRow : OpenClaim := { program := "ytnkkhfggfhbibaa", sum := "cb19defc81d31360f9cc85aef8c8c2ede4dd00442e81590bc09b2fcf57e00bf7", func := "paceline/pacelinekeep.ReachGoes", spec := "reachGoes", unfollowed := true, recurses := true, apart := false, narrowed := true }
def ReachGoesUptoSaid : Prop := reachGoesUptoRow.holds Try.pinned (OpenSpec.upto reachGoesSpec)

/-- 'pacelinekeep.WeakJoined', WHERE WHAT IT READS IS OF BULK AT MOST 1048576: true; the input reads as it did. -/
def weakJoinedUptoRow : OpenClaim := { program := "ytnkkhfggfhbibaa", sum := "cb19defc81d31360f9cc85aef8c8c2ede4dd00442e81590bc09b2fcf57e00bf7", func := "paceline/pacelinekeep.WeakJoined", spec := "weakJoined", unfollowed := true, recurses := true, apart := false, narrowed := true }
def WeakJoinedUptoSaid : Prop := weakJoinedUptoRow.holds Try.pinned (OpenSpec.upto weakJoinedSpec)

/-- 'pacelinekeep.FrameTorn', WHERE WHAT IT READS IS OF BULK AT MOST 1048576: true; the input reads as it did. -/
def frameTornUptoRow : OpenClaim := { program := "ytnkkhfggfhbibaa", sum := "cb19defc81d31360f9cc85aef8c8c2ede4dd00442e81590bc09b2fcf57e00bf7", func := "paceline/pacelinekeep.FrameTorn", spec := "frameTorn", apart := false, narrowed := true }
def FrameTornUptoSaid : Prop := frameTornUptoRow.holds Try.pinned (OpenSpec.upto frameTornSpec)

/-- 'pacelinekeep.MergeKeeps', WHERE WHAT IT READS IS OF BULK AT MOST 1048576: true; the input reads as it did. -/
def mergeKeepsUptoRow : OpenClaim := { program := "ytnkkhfggfhbibaa", sum := "cb19defc81d31360f9cc85aef8c8c2ede4dd00442e81590bc09b2fcf57e00bf7", func := "paceline/pacelinekeep.MergeKeeps", spec := "mergeKeeps", unfollowed := true, recurses := true, apart := false, narrowed := true }
def MergeKeepsUptoSaid : Prop := mergeKeepsUptoRow.holds Try.pinned (OpenSpec.upto mergeKeepsSpec)

/-- 'pacelinekeep.ReverseTwice', WHERE WHAT IT READS IS OF BULK AT MOST 1048576: true; the input reads as it did. -/
def reverseTwiceUptoRow : OpenClaim := { program := "ytnkkhfggfhbibaa", sum := "cb19defc81d31360f9cc85aef8c8c2ede4dd00442e81590bc09b2fcf57e00bf7", func := "paceline/pacelinekeep.ReverseTwice", spec := "reverseTwice", unfollowed := true, recurses := true, apart := false, narrowed := true }
def ReverseTwiceUptoSaid : Prop := reverseTwiceUptoRow.holds Try.pinned (OpenSpec.upto reverseTwiceSpec)

/-- 'pacelinekeep.HopsAll', WHERE WHAT IT READS IS OF BULK AT MOST 1048576: true; the input reads as it did. -/
def hopsAllUptoRow : OpenClaim := { program := "ytnkkhfggfhbibaa", sum := "cb19defc81d31360f9cc85aef8c8c2ede4dd00442e81590bc09b2fcf57e00bf7", func := "paceline/pacelinekeep.HopsAll", spec := "hopsAll", unfollowed := true, recurses := true, apart := false, narrowed := true }
def HopsAllUptoSaid : Prop := hopsAllUptoRow.holds Try.pinned (OpenSpec.upto hopsAllSpec)

/-- 'pacelinekeep.LeastLow', WHERE WHAT IT READS IS OF BULK AT MOST 1048576: true; the input reads as it did. -/
def leastLowUptoRow : OpenClaim := { program := "ytnkkhfggfhbibaa", sum := "cb19defc81d31360f9cc85aef8c8c2ede4dd00442e81590bc09b2fcf57e00bf7", func := "paceline/pacelinekeep.LeastLow", spec := "leastLow", unfollowed := true, recurses := true, apart := false, narrowed := true }
def LeastLowUptoSaid : Prop := leastLowUptoRow.holds Try.pinned (OpenSpec.upto leastLowSpec)

/-- 'pacelinekeep.DegreesAdd', WHERE WHAT IT READS IS OF BULK AT MOST 1048576: true; the input reads as it did. -/
def degreesAddUptoRow : OpenClaim := { program := "ytnkkhfggfhbibaa", sum := "cb19defc81d31360f9cc85aef8c8c2ede4dd00442e81590bc09b2fcf57e00bf7", func := "paceline/pacelinekeep.DegreesAdd", spec := "degreesAdd", unfollowed := true, recurses := true, apart := false, narrowed := true }
def DegreesAddUptoSaid : Prop := degreesAddUptoRow.holds Try.pinned (OpenSpec.upto degreesAddSpec)

/-- 'pacelinekeep.StrongMutual', WHERE WHAT IT READS IS OF BULK AT MOST 1048576: true; the input reads as it did. -/
def strongMutualUptoRow : OpenClaim := { program := "ytnkkhfggfhbibaa", sum := "cb19defc81d31360f9cc85aef8c8c2ede4dd00442e81590bc09b2fcf57e00bf7", func := "paceline/pacelinekeep.StrongMutual", spec := "strongMutual", unfollowed := true, recurses := true, apart := false, narrowed := true }
def StrongMutualUptoSaid : Prop := strongMutualUptoRow.holds Try.pinned (OpenSpec.upto strongMutualSpec)

/-- 'pacelinekeep.QueueRuns', WHERE WHAT IT READS IS OF BULK AT MOST 1048576: true; the input reads as it did. -/
def queueRunsUptoRow : OpenClaim := { program := "ytnkkhfggfhbibaa", sum := "cb19defc81d31360f9cc85aef8c8c2ede4dd00442e81590bc09b2fcf57e00bf7", func := "paceline/pacelinekeep.QueueRuns", spec := "queueRuns", unfollowed := true, recurses := true, apart := false, narrowed := true }
def QueueRunsUptoSaid : Prop := queueRunsUptoRow.holds Try.pinned (OpenSpec.upto queueRunsSpec)

end Rows
end Go.Proofs.Ytnkkhfggfhbibaa
