/-
  No cell of these rows narrows 'for every input' (looked for: loops, veiled, ifaces, maps, wideKeys, modest, calm, conditions, laid).
  DERIVED. THE GIVEN ROWS OF THIS SEAT. 6 by the template 'for every input the law returns true; each argument reads behind the call as it read before'; 0 by the template 'total and deterministic' (their statements: YtiaflhlfodcbjaaTotals.lean).
  GIVEN WITH THE SEED: the statements are not yours to turn. If you find one false, say at which input.
  Laid BY PROGRAM, IN A SANDBOX (cutbox-rows.mjs): the forced cells as the released guide's own fill.sh prints them over the translation 9965efa96d2e5c28… (all of the seat's roots in one cut). By AI agents, Wed Nov 11 2026. No macro, syntax, notation, axiom, sorry.
-/
import Derived.Test.YtiaflhlfodcbjaaChecked
import GoSem.Claim
import GoSem.ClaimJoined
import GoSem.ClaimMapViews
import Derived.JoinedTies
import Derived.KernelRfl
namespace Go.Proofs.Ytiaflhlfodcbjaa
/- THE CELL 'sum', in the pinned program and in every row, IS THE sha256 OF THE DUMP (.gsa) THAT YtiaflhlfodcbjaaProg.lean LOADS. Nothing in Lean hashes anything: it is a label: what it is worth is what the hold of that sum in a sandbox is worth. -/
noncomputable def Try.pinned : Pinned := { name := "ytiaflhlfodcbjaa", sum := "9965efa96d2e5c286626136680da1dc9c56075ddcae93bc5d45bf7bcb6415e49", checked := Try.checked }
namespace Rows
def none {H : Type} : Left H := { results := [], args := [] }

/-- 'pacelinekeep.RoundsMail': WHATEVER THE INPUT: true; the input reads as it did. -/
def roundsMailSpec : ChangeSpec := { name := "roundsMail", fn := fun _ => fun
  | [d1, d2, d3, d4, d5] => { results := [.lit (.bool true)], args := [d1, d2, d3, d4, d5] }
  | _ => none }
def roundsMailRow : OpenClaim := { program := "ytiaflhlfodcbjaa", sum := "9965efa96d2e5c286626136680da1dc9c56075ddcae93bc5d45bf7bcb6415e49", func := "paceline/pacelinekeep.RoundsMail", spec := "roundsMail", unfollowed := true, recurses := true, apart := false }
def RoundsMailSaid : Prop := roundsMailRow.holds Try.pinned (OpenSpec.ofChange roundsMailSpec)

/-- ITS FALSE NEIGHBOUR: 'it returns false'. Refute it at one input. -/
def roundsMailWrong : ChangeSpec := { name := "roundsMail", fn := fun _ => fun
  | [d1, d2, d3, d4, d5] => { results := [.lit (.bool false)], args := [d1, d2, d3, d4, d5] }
  | _ => none }
def RoundsMailWrongFalsely : Prop := roundsMailRow.holds Try.pinned (OpenSpec.ofChange roundsMailWrong)

/-- 'pacelinekeep.RoundsSteps': WHATEVER THE INPUT: true; the input reads as it did. -/
def roundsStepsSpec : ChangeSpec := { name := "roundsSteps", fn := fun _ => fun
  | [d1, d2, d3, d4, d5] => { results := [.lit (.bool true)], args := [d1, d2, d3, d4, d5] }
  | _ => none }
def roundsStepsRow : OpenClaim := { program := "ytiaflhlfodcbjaa", sum := "9965efa96d2e5c286626136680da1dc9c56075ddcae93bc5d45bf7bcb6415e49", func := "paceline/pacelinekeep.RoundsSteps", spec := "roundsSteps", unfollowed := true, recurses := true, apart := false }
def RoundsStepsSaid : Prop := roundsStepsRow.holds Try.pinned (OpenSpec.ofChange roundsStepsSpec)

/-- ITS FALSE NEIGHBOUR: 'it returns false'. Refute it at one input. -/
def roundsStepsWrong : ChangeSpec := { name := "roundsSteps", fn := fun _ => fun
  | [d1, d2, d3, d4, d5] => { results := [.lit (.bool false)], args := [d1, d2, d3, d4, d5] }
  | _ => none }
def RoundsStepsWrongFalsely : Prop := roundsStepsRow.holds Try.pinned (OpenSpec.ofChange roundsStepsWrong)

/-- 'pacelinekeep.RoundsAlone': WHATEVER THE INPUT: true; the input reads as it did. -/
def roundsAloneSpec : ChangeSpec := { name := "roundsAlone", fn := fun _ => fun
  | [d1, d2, d3, d4, d5] => { results := [.lit (.bool true)], args := [d1, d2, d3, d4, d5] }
  | _ => none }
def roundsAloneRow : OpenClaim := { program := "ytiaflhlfodcbjaa", sum := "9965efa96d2e5c286626136680da1dc9c56075ddcae93bc5d45bf7bcb6415e49", func := "paceline/pacelinekeep.RoundsAlone", spec := "roundsAlone", unfollowed := true, recurses := true, apart := false }
def RoundsAloneSaid : Prop := roundsAloneRow.holds Try.pinned (OpenSpec.ofChange roundsAloneSpec)

/-- ITS FALSE NEIGHBOUR: 'it returns false'. Refute it at one input. -/
def roundsAloneWrong : ChangeSpec := { name := "roundsAlone", fn := fun _ => fun
  | [d1, d2, d3, d4, d5] => { results := [.lit (.bool false)], args := [d1, d2, d3, d4, d5] }
  | _ => none }
def RoundsAloneWrongFalsely : Prop := roundsAloneRow.holds Try.pinned (OpenSpec.ofChange roundsAloneWrong)

/-- 'pacelinekeep.RoundsWeak': WHATEVER THE INPUT: true; the input reads as it did. -/
def roundsWeakSpec : ChangeSpec := { name := "roundsWeak", fn := fun _ => fun
  | [d1, d2] => { results := [.lit (.bool true)], args := [d1, d2] }
  | _ => none }
def roundsWeakRow : OpenClaim := { program := "ytiaflhlfodcbjaa", sum := "9965efa96d2e5c286626136680da1dc9c56075ddcae93bc5d45bf7bcb6415e49", func := "paceline/pacelinekeep.RoundsWeak", spec := "roundsWeak", unfollowed := true, recurses := true, apart := false }
def RoundsWeakSaid : Prop := roundsWeakRow.holds Try.pinned (OpenSpec.ofChange roundsWeakSpec)

/-- ITS FALSE NEIGHBOUR: 'it returns false'. Refute it at one input. -/
def roundsWeakWrong : ChangeSpec := { name := "roundsWeak", fn := fun _ => fun
  | [d1, d2] => { results := [.lit (.bool false)], args := [d1, d2] }
  | _ => none }
def RoundsWeakWrongFalsely : Prop := roundsWeakRow.holds Try.pinned (OpenSpec.ofChange roundsWeakWrong)

/-- 'pacelinekeep.RoundsStrong': WHATEVER THE INPUT: true; the input reads as it did. -/
def roundsStrongSpec : ChangeSpec := { name := "roundsStrong", fn := fun _ => fun
  | [d1, d2] => { results := [.lit (.bool true)], args := [d1, d2] }
  | _ => none }
def roundsStrongRow : OpenClaim := { program := "ytiaflhlfodcbjaa", sum := "9965efa96d2e5c286626136680da1dc9c56075ddcae93bc5d45bf7bcb6415e49", func := "paceline/pacelinekeep.RoundsStrong", spec := "roundsStrong", unfollowed := true, recurses := true, apart := false }
def RoundsStrongSaid : Prop := roundsStrongRow.holds Try.pinned (OpenSpec.ofChange roundsStrongSpec)

/-- ITS FALSE NEIGHBOUR: 'it returns false'. Refute it at one input. -/
def roundsStrongWrong : ChangeSpec := { name := "roundsStrong", fn := fun _ => fun
  | [d1, d2] => { results := [.lit (.bool false)], args := [d1, d2] }
  | _ => none }
def RoundsStrongWrongFalsely : Prop := roundsStrongRow.holds Try.pinned (OpenSpec.ofChange roundsStrongWrong)

/-- 'pacelinekeep.RoundsDist': WHATEVER THE INPUT: true; the input reads as it did. -/
def roundsDistSpec : ChangeSpec := { name := "roundsDist", fn := fun _ => fun
  | [d1, d2, d3] => { results := [.lit (.bool true)], args := [d1, d2, d3] }
  | _ => none }
def roundsDistRow : OpenClaim := { program := "ytiaflhlfodcbjaa", sum := "9965efa96d2e5c286626136680da1dc9c56075ddcae93bc5d45bf7bcb6415e49", func := "paceline/pacelinekeep.RoundsDist", spec := "roundsDist", unfollowed := true, recurses := true, apart := false }
def RoundsDistSaid : Prop := roundsDistRow.holds Try.pinned (OpenSpec.ofChange roundsDistSpec)

/-- ITS FALSE NEIGHBOUR: 'it returns false'. Refute it at one input. -/
def roundsDistWrong : ChangeSpec := { name := "roundsDist", fn := fun _ => fun
  | [d1, d2, d3] => { results := [.lit (.bool false)], args := [d1, d2, d3] }
  | _ => none }
def RoundsDistWrongFalsely : Prop := roundsDistRow.holds Try.pinned (OpenSpec.ofChange roundsDistWrong)

/- THE SECOND FORM. 'bulk': how many values and letters a reading holds, each counted each time it is reached (what is shared counts as often as it is met; a slice's spare places count too). A statement '..UptoSaid' is the law's where the arguments, and the package variables that the reading takes, are together of bulk at most 1048576: NARROWER than '..Said'. Prove '..Said' where nothing that the law and all that it calls make is longer than what came in: it says more and counts as full. Else prove '..UptoSaid'. A law counts once. -/
mutual
def uptoBulk {H : Type} : DataW H → Nat
  | .lit (.string bytes) => bytes.length + 1
  | .lit _ => 1
  | .nil => 1
  | .ptr d => uptoBulk d + 1
  | .slice elems spare => uptoBulkAll elems + uptoBulkAll spare + 1
  | .agg parts => uptoBulkAll parts + 1
  | .iface _ d => uptoBulk d + 1
  | .map entries => uptoBulkEntries entries + 1
  | .held _ => 1
def uptoBulkAll {H : Type} : List (DataW H) → Nat
  | [] => 0
  | d :: r => uptoBulk d + uptoBulkAll r
def uptoBulkEntries {H : Type} : List (Lit × DataW H) → Nat
  | [] => 0
  | x :: r => uptoBulkEntry x + uptoBulkEntries r
def uptoBulkEntry {H : Type} : Lit × DataW H → Nat
  | (.string bytes, d) => bytes.length + uptoBulk d + 1
  | (_, d) => uptoBulk d + 1
 end
def uptoSmall : (H : Type) → List (DataW H) → Bool := fun _ ds => decide (uptoBulkAll ds ≤ 1048576)
def OpenSpec.upto (s : _root_.Go.ChangeSpec) : _root_.Go.OpenSpec := { _root_.Go.OpenSpec.ofChange s with cond := some uptoSmall }

/-- 'pacelinekeep.RoundsMail', WHERE WHAT IT READS IS OF BULK AT MOST 1048576: true; the input reads as it did. -/
def roundsMailUptoRow : OpenClaim := { program := "ytiaflhlfodcbjaa", sum := "9965efa96d2e5c286626136680da1dc9c56075ddcae93bc5d45bf7bcb6415e49", func := "paceline/pacelinekeep.RoundsMail", spec := "roundsMail", unfollowed := true, recurses := true, apart := false, narrowed := true }
def RoundsMailUptoSaid : Prop := roundsMailUptoRow.holds Try.pinned (OpenSpec.upto roundsMailSpec)

/-- 'pacelinekeep.RoundsSteps', WHERE WHAT IT READS IS OF BULK AT MOST 1048576: true; the input reads as it did. -/
def roundsStepsUptoRow : OpenClaim := { program := "ytiaflhlfodcbjaa", sum := "9965efa96d2e5c286626136680da1dc9c56075ddcae93bc5d45bf7bcb6415e49", func := "paceline/pacelinekeep.RoundsSteps", spec := "roundsSteps", unfollowed := true, recurses := true, apart := false, narrowed := true }
def RoundsStepsUptoSaid : Prop := roundsStepsUptoRow.holds Try.pinned (OpenSpec.upto roundsStepsSpec)

/-- 'pacelinekeep.RoundsAlone', WHERE WHAT IT READS IS OF BULK AT MOST 1048576: true; the input reads as it did. -/
def roundsAloneUptoRow : OpenClaim := { program := "ytiaflhlfodcbjaa", sum := "9965efa96d2e5c286626136680da1dc9c56075ddcae93bc5d45bf7bcb6415e49", func := "paceline/pacelinekeep.RoundsAlone", spec := "roundsAlone", unfollowed := true, recurses := true, apart := false, narrowed := true }
def RoundsAloneUptoSaid : Prop := roundsAloneUptoRow.holds Try.pinned (OpenSpec.upto roundsAloneSpec)

/-- 'pacelinekeep.RoundsWeak', WHERE WHAT IT READS IS OF BULK AT MOST 1048576: true; the input reads as it did. -/
def roundsWeakUptoRow : OpenClaim := { program := "ytiaflhlfodcbjaa", sum := "9965efa96d2e5c286626136680da1dc9c56075ddcae93bc5d45bf7bcb6415e49", func := "paceline/pacelinekeep.RoundsWeak", spec := "roundsWeak", unfollowed := true, recurses := true, apart := false, narrowed := true }
def RoundsWeakUptoSaid : Prop := roundsWeakUptoRow.holds Try.pinned (OpenSpec.upto roundsWeakSpec)

/-- 'pacelinekeep.RoundsStrong', WHERE WHAT IT READS IS OF BULK AT MOST 1048576: true; the input reads as it did. -/
def roundsStrongUptoRow : OpenClaim := { program := "ytiaflhlfodcbjaa", sum := "9965efa96d2e5c286626136680da1dc9c56075ddcae93bc5d45bf7bcb6415e49", func := "paceline/pacelinekeep.RoundsStrong", spec := "roundsStrong", unfollowed := true, recurses := true, apart := false, narrowed := true }
def RoundsStrongUptoSaid : Prop := roundsStrongUptoRow.holds Try.pinned (OpenSpec.upto roundsStrongSpec)

/-- 'pacelinekeep.RoundsDist', WHERE WHAT IT READS IS OF BULK AT MOST 1048576: true; the input reads as it did. -/
def roundsDistUptoRow : OpenClaim := { program := "ytiaflhlfodcbjaa", sum := "9965efa96d2e5c286626136680da1dc9c56075ddcae93bc5d45bf7bcb6415e49", func := "paceline/pacelinekeep.RoundsDist", spec := "roundsDist", unfollowed := true, recurses := true, apart := false, narrowed := true }
def RoundsDistUptoSaid : Prop := roundsDistUptoRow.holds Try.pinned (OpenSpec.upto roundsDistSpec)

end Rows
end Go.Proofs.Ytiaflhlfodcbjaa
