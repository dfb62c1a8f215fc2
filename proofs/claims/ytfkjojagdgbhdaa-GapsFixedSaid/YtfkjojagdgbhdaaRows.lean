/-
  No cell of these rows narrows 'for every input' (looked for: loops, veiled, ifaces, maps, wideKeys, modest, calm, conditions, laid).
  DERIVED. THE GIVEN ROWS OF THIS SEAT. 12 by the template 'for every input the law returns true; each argument reads behind the call as it read before'; 0 by the template 'total and deterministic' (their statements: YtfkjojagdgbhdaaTotals.lean).
  GIVEN WITH THE SEED: the statements are not yours to turn. If you find one false, say at which input.
  Laid BY PROGRAM, IN A SANDBOX (cutbox-rows.mjs): the forced cells as the released guide's own fill.sh prints them over the translation 4f65c9f429d804a5… (all of the seat's roots in one cut). By AI agents, Wed Nov 11 2026. No macro, syntax, notation, axiom, sorry.
-/
import Derived.Test.YtfkjojagdgbhdaaChecked
import GoSem.Claim
import GoSem.ClaimJoined
import GoSem.ClaimMapViews
import Derived.JoinedTies
import Derived.KernelRfl
namespace Go.Proofs.Ytfkjojagdgbhdaa
/- THE CELL 'sum', in the pinned program and in every row, IS THE sha256 OF THE DUMP (.gsa) THAT YtfkjojagdgbhdaaProg.lean LOADS. Nothing in Lean hashes anything: it is a label: what it is worth is what the hold of that sum in a sandbox is worth. -/
noncomputable def Try.pinned : Pinned := { name := "ytfkjojagdgbhdaa", sum := "4f65c9f429d804a5cc9001a898198aa1f62deeecd29c6b9fd1235e020351fb2b", checked := Try.checked }
namespace Rows
def none {H : Type} : Left H := { results := [], args := [] }

/-- 'pacelinekeep.ZigBack': WHATEVER THE INPUT: true; the input reads as it did. -/
def zigBackSpec : ChangeSpec := { name := "zigBack", fn := fun _ => fun
  | [d1, d2] => { results := [.lit (.bool true)], args := [d1, d2] }
  | _ => none }
def zigBackRow : OpenClaim := { program := "ytfkjojagdgbhdaa", sum := "4f65c9f429d804a5cc9001a898198aa1f62deeecd29c6b9fd1235e020351fb2b", func := "paceline/pacelinekeep.ZigBack", spec := "zigBack", apart := false }
def ZigBackSaid : Prop := zigBackRow.holds Try.pinned (OpenSpec.ofChange zigBackSpec)

/-- ITS FALSE NEIGHBOUR: 'it returns false'. Refute it at one input. -/
def zigBackWrong : ChangeSpec := { name := "zigBack", fn := fun _ => fun
  | [d1, d2] => { results := [.lit (.bool false)], args := [d1, d2] }
  | _ => none }
def ZigBackWrongFalsely : Prop := zigBackRow.holds Try.pinned (OpenSpec.ofChange zigBackWrong)

/-- 'pacelinekeep.VarintGrows': WHATEVER THE INPUT: true; the input reads as it did. -/
def varintGrowsSpec : ChangeSpec := { name := "varintGrows", fn := fun _ => fun
  | [d1, d2] => { results := [.lit (.bool true)], args := [d1, d2] }
  | _ => none }
def varintGrowsRow : OpenClaim := { program := "ytfkjojagdgbhdaa", sum := "4f65c9f429d804a5cc9001a898198aa1f62deeecd29c6b9fd1235e020351fb2b", func := "paceline/pacelinekeep.VarintGrows", spec := "varintGrows", apart := false }
def VarintGrowsSaid : Prop := varintGrowsRow.holds Try.pinned (OpenSpec.ofChange varintGrowsSpec)

/-- ITS FALSE NEIGHBOUR: 'it returns false'. Refute it at one input. -/
def varintGrowsWrong : ChangeSpec := { name := "varintGrows", fn := fun _ => fun
  | [d1, d2] => { results := [.lit (.bool false)], args := [d1, d2] }
  | _ => none }
def VarintGrowsWrongFalsely : Prop := varintGrowsRow.holds Try.pinned (OpenSpec.ofChange varintGrowsWrong)

/-- 'pacelinekeep.OwnerEven': WHATEVER THE INPUT: true; the input reads as it did. -/
def ownerEvenSpec : ChangeSpec := { name := "ownerEven", fn := fun _ => fun
  | [d1, d2] => { results := [.lit (.bool true)], args := [d1, d2] }
  | _ => none }
def ownerEvenRow : OpenClaim := { program := "ytfkjojagdgbhdaa", sum := "4f65c9f429d804a5cc9001a898198aa1f62deeecd29c6b9fd1235e020351fb2b", func := "paceline/pacelinekeep.OwnerEven", spec := "ownerEven", apart := false }
def OwnerEvenSaid : Prop := ownerEvenRow.holds Try.pinned (OpenSpec.ofChange ownerEvenSpec)

/-- ITS FALSE NEIGHBOUR: 'it returns false'. Refute it at one input. -/
def ownerEvenWrong : ChangeSpec := { name := "ownerEven", fn := fun _ => fun
  | [d1, d2] => { results := [.lit (.bool false)], args := [d1, d2] }
  | _ => none }
def OwnerEvenWrongFalsely : Prop := ownerEvenRow.holds Try.pinned (OpenSpec.ofChange ownerEvenWrong)

/-- 'pacelinekeep.FrameSum': WHATEVER THE INPUT: true; the input reads as it did. -/
def frameSumSpec : ChangeSpec := { name := "frameSum", fn := fun _ => fun
  | [d1, d2, d3, d4] => { results := [.lit (.bool true)], args := [d1, d2, d3, d4] }
  | _ => none }
def frameSumRow : OpenClaim := { program := "ytfkjojagdgbhdaa", sum := "4f65c9f429d804a5cc9001a898198aa1f62deeecd29c6b9fd1235e020351fb2b", func := "paceline/pacelinekeep.FrameSum", spec := "frameSum", apart := false }
def FrameSumSaid : Prop := frameSumRow.holds Try.pinned (OpenSpec.ofChange frameSumSpec)

/-- ITS FALSE NEIGHBOUR: 'it returns false'. Refute it at one input. -/
def frameSumWrong : ChangeSpec := { name := "frameSum", fn := fun _ => fun
  | [d1, d2, d3, d4] => { results := [.lit (.bool false)], args := [d1, d2, d3, d4] }
  | _ => none }
def FrameSumWrongFalsely : Prop := frameSumRow.holds Try.pinned (OpenSpec.ofChange frameSumWrong)

/-- 'pacelinekeep.VarintBack': WHATEVER THE INPUT: true; the input reads as it did. -/
def varintBackSpec : ChangeSpec := { name := "varintBack", fn := fun _ => fun
  | [d1, d2] => { results := [.lit (.bool true)], args := [d1, d2] }
  | _ => none }
def varintBackRow : OpenClaim := { program := "ytfkjojagdgbhdaa", sum := "4f65c9f429d804a5cc9001a898198aa1f62deeecd29c6b9fd1235e020351fb2b", func := "paceline/pacelinekeep.VarintBack", spec := "varintBack", apart := false }
def VarintBackSaid : Prop := varintBackRow.holds Try.pinned (OpenSpec.ofChange varintBackSpec)

/-- ITS FALSE NEIGHBOUR: 'it returns false'. Refute it at one input. -/
def varintBackWrong : ChangeSpec := { name := "varintBack", fn := fun _ => fun
  | [d1, d2] => { results := [.lit (.bool false)], args := [d1, d2] }
  | _ => none }
def VarintBackWrongFalsely : Prop := varintBackRow.holds Try.pinned (OpenSpec.ofChange varintBackWrong)

/-- 'pacelinekeep.VarintFixed': WHATEVER THE INPUT: true; the input reads as it did. -/
def varintFixedSpec : ChangeSpec := { name := "varintFixed", fn := fun _ => fun
  | [d] => { results := [.lit (.bool true)], args := [d] }
  | _ => none }
def varintFixedRow : OpenClaim := { program := "ytfkjojagdgbhdaa", sum := "4f65c9f429d804a5cc9001a898198aa1f62deeecd29c6b9fd1235e020351fb2b", func := "paceline/pacelinekeep.VarintFixed", spec := "varintFixed", apart := false }
def VarintFixedSaid : Prop := varintFixedRow.holds Try.pinned (OpenSpec.ofChange varintFixedSpec)

/-- ITS FALSE NEIGHBOUR: 'it returns false'. Refute it at one input. -/
def varintFixedWrong : ChangeSpec := { name := "varintFixed", fn := fun _ => fun
  | [d] => { results := [.lit (.bool false)], args := [d] }
  | _ => none }
def VarintFixedWrongFalsely : Prop := varintFixedRow.holds Try.pinned (OpenSpec.ofChange varintFixedWrong)

/-- 'pacelinekeep.OwnerOne': WHATEVER THE INPUT: true; the input reads as it did. -/
def ownerOneSpec : ChangeSpec := { name := "ownerOne", fn := fun _ => fun
  | [d1, d2, d3] => { results := [.lit (.bool true)], args := [d1, d2, d3] }
  | _ => none }
def ownerOneRow : OpenClaim := { program := "ytfkjojagdgbhdaa", sum := "4f65c9f429d804a5cc9001a898198aa1f62deeecd29c6b9fd1235e020351fb2b", func := "paceline/pacelinekeep.OwnerOne", spec := "ownerOne", apart := false }
def OwnerOneSaid : Prop := ownerOneRow.holds Try.pinned (OpenSpec.ofChange ownerOneSpec)

/-- ITS FALSE NEIGHBOUR: 'it returns false'. Refute it at one input. -/
def ownerOneWrong : ChangeSpec := { name := "ownerOne", fn := fun _ => fun
  | [d1, d2, d3] => { results := [.lit (.bool false)], args := [d1, d2, d3] }
  | _ => none }
def OwnerOneWrongFalsely : Prop := ownerOneRow.holds Try.pinned (OpenSpec.ofChange ownerOneWrong)

/-- 'pacelinekeep.GapsBack': WHATEVER THE INPUT: true; the input reads as it did. -/
def gapsBackSpec : ChangeSpec := { name := "gapsBack", fn := fun _ => fun
  | [d1, d2] => { results := [.lit (.bool true)], args := [d1, d2] }
  | _ => none }
def gapsBackRow : OpenClaim := { program := "ytfkjojagdgbhdaa", sum := "4f65c9f429d804a5cc9001a898198aa1f62deeecd29c6b9fd1235e020351fb2b", func := "paceline/pacelinekeep.GapsBack", spec := "gapsBack", apart := false }
def GapsBackSaid : Prop := gapsBackRow.holds Try.pinned (OpenSpec.ofChange gapsBackSpec)

/-- ITS FALSE NEIGHBOUR: 'it returns false'. Refute it at one input. -/
def gapsBackWrong : ChangeSpec := { name := "gapsBack", fn := fun _ => fun
  | [d1, d2] => { results := [.lit (.bool false)], args := [d1, d2] }
  | _ => none }
def GapsBackWrongFalsely : Prop := gapsBackRow.holds Try.pinned (OpenSpec.ofChange gapsBackWrong)

/-- 'pacelinekeep.GapsFixed': WHATEVER THE INPUT: true; the input reads as it did. -/
def gapsFixedSpec : ChangeSpec := { name := "gapsFixed", fn := fun _ => fun
  | [d] => { results := [.lit (.bool true)], args := [d] }
  | _ => none }
def gapsFixedRow : OpenClaim := { program := "ytfkjojagdgbhdaa", sum := "4f65c9f429d804a5cc9001a898198aa1f62deeecd29c6b9fd1235e020351fb2b", func := "paceline/pacelinekeep.GapsFixed", spec := "gapsFixed", apart := false }
def GapsFixedSaid : Prop := gapsFixedRow.holds Try.pinned (OpenSpec.ofChange gapsFixedSpec)

/-- ITS FALSE NEIGHBOUR: 'it returns false'. Refute it at one input. -/
def gapsFixedWrong : ChangeSpec := { name := "gapsFixed", fn := fun _ => fun
  | [d] => { results := [.lit (.bool false)], args := [d] }
  | _ => none }
def GapsFixedWrongFalsely : Prop := gapsFixedRow.holds Try.pinned (OpenSpec.ofChange gapsFixedWrong)

/-- 'pacelinekeep.FrameBack': WHATEVER THE INPUT: true; the input reads as it did. -/
def frameBackSpec : ChangeSpec := { name := "frameBack", fn := fun _ => fun
  | [d1, d2] => { results := [.lit (.bool true)], args := [d1, d2] }
  | _ => none }
def frameBackRow : OpenClaim := { program := "ytfkjojagdgbhdaa", sum := "4f65c9f429d804a5cc9001a898198aa1f62deeecd29c6b9fd1235e020351fb2b", func := "paceline/pacelinekeep.FrameBack", spec := "frameBack", apart := false }
def FrameBackSaid : Prop := frameBackRow.holds Try.pinned (OpenSpec.ofChange frameBackSpec)

/-- ITS FALSE NEIGHBOUR: 'it returns false'. Refute it at one input. -/
def frameBackWrong : ChangeSpec := { name := "frameBack", fn := fun _ => fun
  | [d1, d2] => { results := [.lit (.bool false)], args := [d1, d2] }
  | _ => none }
def FrameBackWrongFalsely : Prop := frameBackRow.holds Try.pinned (OpenSpec.ofChange frameBackWrong)

/-- 'pacelinekeep.FrameOne': WHATEVER THE INPUT: true; the input reads as it did. -/
def frameOneSpec : ChangeSpec := { name := "frameOne", fn := fun _ => fun
  | [d1, d2, d3] => { results := [.lit (.bool true)], args := [d1, d2, d3] }
  | _ => none }
def frameOneRow : OpenClaim := { program := "ytfkjojagdgbhdaa", sum := "4f65c9f429d804a5cc9001a898198aa1f62deeecd29c6b9fd1235e020351fb2b", func := "paceline/pacelinekeep.FrameOne", spec := "frameOne", apart := false }
def FrameOneSaid : Prop := frameOneRow.holds Try.pinned (OpenSpec.ofChange frameOneSpec)

/-- ITS FALSE NEIGHBOUR: 'it returns false'. Refute it at one input. -/
def frameOneWrong : ChangeSpec := { name := "frameOne", fn := fun _ => fun
  | [d1, d2, d3] => { results := [.lit (.bool false)], args := [d1, d2, d3] }
  | _ => none }
def FrameOneWrongFalsely : Prop := frameOneRow.holds Try.pinned (OpenSpec.ofChange frameOneWrong)

/-- 'pacelinekeep.FrameTorn': WHATEVER THE INPUT: true; the input reads as it did. -/
def frameTornSpec : ChangeSpec := { name := "frameTorn", fn := fun _ => fun
  | [d1, d2] => { results := [.lit (.bool true)], args := [d1, d2] }
  | _ => none }
def frameTornRow : OpenClaim := { program := "ytfkjojagdgbhdaa", sum := "4f65c9f429d804a5cc9001a898198aa1f62deeecd29c6b9fd1235e020351fb2b", func := "paceline/pacelinekeep.FrameTorn", spec := "frameTorn", apart := false }
def FrameTornSaid : Prop := frameTornRow.holds Try.pinned (OpenSpec.ofChange frameTornSpec)

/-- ITS FALSE NEIGHBOUR: 'it returns false'. Refute it at one input. -/
def frameTornWrong : ChangeSpec := { name := "frameTorn", fn := fun _ => fun
  | [d1, d2] => { results := [.lit (.bool false)], args := [d1, d2] }
  | _ => none }
def FrameTornWrongFalsely : Prop := frameTornRow.holds Try.pinned (OpenSpec.ofChange frameTornWrong)

/- THE SECOND FORM. 'bulk': how many values and letters a reading holds, each counted each time it is reached (what is shared counts as often as it is met; a slice's spare places count too). A statement '..UptoSaid' is the law's where the arguments, and the package variables that the reading takes, are together of bulk at most 1048576: NARROWER than '..Said'. Prove '..Said' where nothing that the law and all that it calls make is longer than what came in: it says more and counts as full. Else prove '..UptoSaid'. A law counts once. -/
mutual
def uptoBulk {H : Type} : DataW H → Nat
  | .lit (.string bytes) => bytes.length + 1
  | .lit _ => 1
  | .nil => 1
  | .ptr d => uptoBulk d + 1
  | .slice elems spare => uptoBulkAll elems + uptoBulkAll spare + 1
  | .agg parts => uptoBulkAll parts + 1
  | .iface _ d => uptoBulk d + 1
  | .map entries => uptoBulkEntries entries + 1
  | .held _ => 1
def uptoBulkAll {H : Type} : List (DataW H) → Nat
  | [] => 0
  | d :: r => uptoBulk d + uptoBulkAll r
def uptoBulkEntries {H : Type} : List (Lit × DataW H) → Nat
  | [] => 0
  | x :: r => uptoBulkEntry x + uptoBulkEntries r
def uptoBulkEntry {H : Type} : Lit × DataW H → Nat
  | (.string bytes, d) => bytes.length + uptoBulk d + 1
  | (_, d) => uptoBulk d + 1
 end
def uptoSmall : (H : Type) → List (DataW H) → Bool := fun _ ds => decide (uptoBulkAll ds ≤ 1048576)
def OpenSpec.upto (s : _root_.Go.ChangeSpec) : _root_.Go.OpenSpec := { _root_.Go.OpenSpec.ofChange s with cond := some uptoSmall }

/-- 'pacelinekeep.ZigBack', WHERE WHAT IT READS IS OF BULK AT MOST 1048576: true; the input reads as it did. -/
def zigBackUptoRow : OpenClaim := { program := "ytfkjojagdgbhdaa", sum := "4f65c9f429d804a5cc9001a898198aa1f62deeecd29c6b9fd1235e020351fb2b", func := "paceline/pacelinekeep.ZigBack", spec := "zigBack", apart := false, narrowed := true }
def ZigBackUptoSaid : Prop := zigBackUptoRow.holds Try.pinned (OpenSpec.upto zigBackSpec)

/-- 'pacelinekeep.VarintGrows', WHERE WHAT IT READS IS OF BULK AT MOST 1048576: true; the input reads as it did. -/
def varintGrowsUptoRow : OpenClaim := { program := "ytfkjojagdgbhdaa", sum := "4f65c9f429d804a5cc9001a898198aa1f62deeecd29c6b9fd1235e020351fb2b", func := "paceline/pacelinekeep.VarintGrows", spec := "varintGrows", apart := false, narrowed := true }
def VarintGrowsUptoSaid : Prop := varintGrowsUptoRow.holds Try.pinned (OpenSpec.upto varintGrowsSpec)

/-- 'pacelinekeep.OwnerEven', WHERE WHAT IT READS IS OF BULK AT MOST 1048576: true; the input reads as it did. -/
def ownerEvenUptoRow : OpenClaim := { program := "ytfkjojagdgbhdaa", sum := "4f65c9f429d804a5cc9001a898198aa1f62deeecd29c6b9fd1235e020351fb2b", func := "paceline/pacelinekeep.OwnerEven", spec := "ownerEven", apart := false, narrowed := true }
def OwnerEvenUptoSaid : Prop := ownerEvenUptoRow.holds Try.pinned (OpenSpec.upto ownerEvenSpec)

/-- 'pacelinekeep.FrameSum', WHERE WHAT IT READS IS OF BULK AT MOST 1048576: true; the input reads as it did. -/
def frameSumUptoRow : OpenClaim := { program := "ytfkjojagdgbhdaa", sum := "4f65c9f429d804a5cc9001a898198aa1f62deeecd29c6b9fd1235e020351fb2b", func := "paceline/pacelinekeep.FrameSum", spec := "frameSum", apart := false, narrowed := true }
def FrameSumUptoSaid : Prop := frameSumUptoRow.holds Try.pinned (OpenSpec.upto frameSumSpec)

/-- 'pacelinekeep.VarintBack', WHERE WHAT IT READS IS OF BULK AT MOST 1048576: true; the input reads as it did. -/
def varintBackUptoRow : OpenClaim := { program := "ytfkjojagdgbhdaa", sum := "4f65c9f429d804a5cc9001a898198aa1f62deeecd29c6b9fd1235e020351fb2b", func := "paceline/pacelinekeep.VarintBack", spec := "varintBack", apart := false, narrowed := true }
def VarintBackUptoSaid : Prop := varintBackUptoRow.holds Try.pinned (OpenSpec.upto varintBackSpec)

/-- 'pacelinekeep.VarintFixed', WHERE WHAT IT READS IS OF BULK AT MOST 1048576: true; the input reads as it did. -/
def varintFixedUptoRow : OpenClaim := { program := "ytfkjojagdgbhdaa", sum := "4f65c9f429d804a5cc9001a898198aa1f62deeecd29c6b9fd1235e020351fb2b", func := "paceline/pacelinekeep.VarintFixed", spec := "varintFixed", apart := false, narrowed := true }
def VarintFixedUptoSaid : Prop := varintFixedUptoRow.holds Try.pinned (OpenSpec.upto varintFixedSpec)

/-- 'pacelinekeep.OwnerOne', WHERE WHAT IT READS IS OF BULK AT MOST 1048576: true; the input reads as it did. -/
def ownerOneUptoRow : OpenClaim := { program := "ytfkjojagdgbhdaa", sum := "4f65c9f429d804a5cc9001a898198aa1f62deeecd29c6b9fd1235e020351fb2b", func := "paceline/pacelinekeep.OwnerOne", spec := "ownerOne", apart := false, narrowed := true }
def OwnerOneUptoSaid : Prop := ownerOneUptoRow.holds Try.pinned (OpenSpec.upto ownerOneSpec)

/-- 'pacelinekeep.GapsBack', WHERE WHAT IT READS IS OF BULK AT MOST 1048576: true; the input reads as it did. -/
def gapsBackUptoRow : OpenClaim := { program := "ytfkjojagdgbhdaa", sum := "4f65c9f429d804a5cc9001a898198aa1f62deeecd29c6b9fd1235e020351fb2b", func := "paceline/pacelinekeep.GapsBack", spec := "gapsBack", apart := false, narrowed := true }
def GapsBackUptoSaid : Prop := gapsBackUptoRow.holds Try.pinned (OpenSpec.upto gapsBackSpec)

/-- 'pacelinekeep.GapsFixed', WHERE WHAT IT READS IS OF BULK AT MOST 1048576: true; the input reads as it did. -/
def gapsFixedUptoRow : OpenClaim := { program := "ytfkjojagdgbhdaa", sum := "4f65c9f429d804a5cc9001a898198aa1f62deeecd29c6b9fd1235e020351fb2b", func := "paceline/pacelinekeep.GapsFixed", spec := "gapsFixed", apart := false, narrowed := true }
def GapsFixedUptoSaid : Prop := gapsFixedUptoRow.holds Try.pinned (OpenSpec.upto gapsFixedSpec)

/-- 'pacelinekeep.FrameBack', WHERE WHAT IT READS IS OF BULK AT MOST 1048576: true; the input reads as it did. -/
def frameBackUptoRow : OpenClaim := { program := "ytfkjojagdgbhdaa", sum := "4f65c9f429d804a5cc9001a898198aa1f62deeecd29c6b9fd1235e020351fb2b", func := "paceline/pacelinekeep.FrameBack", spec := "frameBack", apart := false, narrowed := true }
def FrameBackUptoSaid : Prop := frameBackUptoRow.holds Try.pinned (OpenSpec.upto frameBackSpec)

/-- 'pacelinekeep.FrameOne', WHERE WHAT IT READS IS OF BULK AT MOST 1048576: true; the input reads as it did. -/
def frameOneUptoRow : OpenClaim := { program := "ytfkjojagdgbhdaa", sum := "4f65c9f429d804a5cc9001a898198aa1f62deeecd29c6b9fd1235e020351fb2b", func := "paceline/pacelinekeep.FrameOne", spec := "frameOne", apart := false, narrowed := true }
def FrameOneUptoSaid : Prop := frameOneUptoRow.holds Try.pinned (OpenSpec.upto frameOneSpec)

/-- 'pacelinekeep.FrameTorn', WHERE WHAT IT READS IS OF BULK AT MOST 1048576: true; the input reads as it did. -/
def frameTornUptoRow : OpenClaim := { program := "ytfkjojagdgbhdaa", sum := "4f65c9f429d804a5cc9001a898198aa1f62deeecd29c6b9fd1235e020351fb2b", func := "paceline/pacelinekeep.FrameTorn", spec := "frameTorn", apart := false, narrowed := true }
def FrameTornUptoSaid : Prop := frameTornUptoRow.holds Try.pinned (OpenSpec.upto frameTornSpec)

end Rows
end Go.Proofs.Ytfkjojagdgbhdaa
