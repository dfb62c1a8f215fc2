/-
  No cell of these rows narrows 'for every input' (looked for: loops, veiled, ifaces, maps, wideKeys, modest, calm, conditions, laid).
  DERIVED. THE GIVEN ROWS OF THIS SEAT. 11 by the template 'for every input the law returns true; each argument reads behind the call as it read before'; 0 by the template 'total and deterministic' (their statements: YtmadpjmlcooinaaTotals.lean).
  GIVEN WITH THE SEED: the statements are not yours to turn. If you find one false, say at which input.
  Laid BY PROGRAM, IN A SANDBOX (cutbox-rows.mjs): the forced cells as the released guide's own fill.sh prints them over the translation 35592517b2fb61b7… (all of the seat's roots in one cut). By AI agents, Wed Nov 11 2026. No macro, syntax, notation, axiom, sorry.
-/
import Derived.Test.YtmadpjmlcooinaaChecked
import GoSem.Claim
import GoSem.ClaimJoined
import GoSem.ClaimMapViews
import Derived.JoinedTies
import Derived.KernelRfl
namespace Go.Proofs.Ytmadpjmlcooinaa
/- THE CELL 'sum', in the pinned program and in every row, IS THE sha256 OF THE DUMP (.gsa) THAT YtmadpjmlcooinaaProg.lean LOADS. Nothing in Lean hashes anything: it is a label: what it is worth is what the hold of that sum in a sandbox is worth. -/
noncomputable def Try.pinned : Pinned := { name := "ytmadpjmlcooinaa", sum := "35592517b2fb61b7d0c89ee1f085aa83badbb26f9a92bf804d7ed3c32798fc0b", checked := Try.checked }
namespace Rows
def none {H : Type} : Left H := { results := [], args := [] }

/-- 'pacelinekeep.LinkOrder': WHATEVER THE INPUT: true; the input reads as it did. -/
def linkOrderSpec : ChangeSpec := { name := "linkOrder", fn := fun _ => fun
  | [d1, d2] => { results := [.lit (.bool true)], args := [d1, d2] }
  | _ => none }
def linkOrderRow : OpenClaim := { program := "ytmadpjmlcooinaa", sum := "35592517b2fb61b7d0c89ee1f085aa83badbb26f9a92bf804d7ed3c32798fc0b", func := "paceline/pacelinekeep.LinkOrder", spec := "linkOrder", apart := false }
def LinkOrderSaid : Prop := linkOrderRow.holds Try.pinned (OpenSpec.ofChange linkOrderSpec)

/-- ITS FALSE NEIGHBOUR: 'it returns false'. Refute it at one input. -/
def linkOrderWrong : ChangeSpec := { name := "linkOrder", fn := fun _ => fun
  | [d1, d2] => { results := [.lit (.bool false)], args := [d1, d2] }
  | _ => none }
def LinkOrderWrongFalsely : Prop := linkOrderRow.holds Try.pinned (OpenSpec.ofChange linkOrderWrong)

/-- 'pacelinekeep.LinkAll': WHATEVER THE INPUT: true; the input reads as it did. -/
def linkAllSpec : ChangeSpec := { name := "linkAll", fn := fun _ => fun
  | [d1, d2] => { results := [.lit (.bool true)], args := [d1, d2] }
  | _ => none }
def linkAllRow : OpenClaim := { program := "ytmadpjmlcooinaa", sum := "35592517b2fb61b7d0c89ee1f085aa83badbb26f9a92bf804d7ed3c32798fc0b", func := "paceline/pacelinekeep.LinkAll", spec := "linkAll", apart := false }
def LinkAllSaid : Prop := linkAllRow.holds Try.pinned (OpenSpec.ofChange linkAllSpec)

/-- ITS FALSE NEIGHBOUR: 'it returns false'. Refute it at one input. -/
def linkAllWrong : ChangeSpec := { name := "linkAll", fn := fun _ => fun
  | [d1, d2] => { results := [.lit (.bool false)], args := [d1, d2] }
  | _ => none }
def LinkAllWrongFalsely : Prop := linkAllRow.holds Try.pinned (OpenSpec.ofChange linkAllWrong)

/-- 'pacelinekeep.LinkEpoch': WHATEVER THE INPUT: true; the input reads as it did. -/
def linkEpochSpec : ChangeSpec := { name := "linkEpoch", fn := fun _ => fun
  | [d1, d2, d3] => { results := [.lit (.bool true)], args := [d1, d2, d3] }
  | _ => none }
def linkEpochRow : OpenClaim := { program := "ytmadpjmlcooinaa", sum := "35592517b2fb61b7d0c89ee1f085aa83badbb26f9a92bf804d7ed3c32798fc0b", func := "paceline/pacelinekeep.LinkEpoch", spec := "linkEpoch", apart := false }
def LinkEpochSaid : Prop := linkEpochRow.holds Try.pinned (OpenSpec.ofChange linkEpochSpec)

/-- ITS FALSE NEIGHBOUR: 'it returns false'. Refute it at one input. -/
def linkEpochWrong : ChangeSpec := { name := "linkEpoch", fn := fun _ => fun
  | [d1, d2, d3] => { results := [.lit (.bool false)], args := [d1, d2, d3] }
  | _ => none }
def LinkEpochWrongFalsely : Prop := linkEpochRow.holds Try.pinned (OpenSpec.ofChange linkEpochWrong)

/-- 'pacelinekeep.BoardOnce': WHATEVER THE INPUT: true; the input reads as it did. -/
def boardOnceSpec : ChangeSpec := { name := "boardOnce", fn := fun _ => fun
  | [d1, d2, d3, d4, d5] => { results := [.lit (.bool true)], args := [d1, d2, d3, d4, d5] }
  | _ => none }
def boardOnceRow : OpenClaim := { program := "ytmadpjmlcooinaa", sum := "35592517b2fb61b7d0c89ee1f085aa83badbb26f9a92bf804d7ed3c32798fc0b", func := "paceline/pacelinekeep.BoardOnce", spec := "boardOnce", apart := false }
def BoardOnceSaid : Prop := boardOnceRow.holds Try.pinned (OpenSpec.ofChange boardOnceSpec)

/-- ITS FALSE NEIGHBOUR: 'it returns false'. Refute it at one input. -/
def boardOnceWrong : ChangeSpec := { name := "boardOnce", fn := fun _ => fun
  | [d1, d2, d3, d4, d5] => { results := [.lit (.bool false)], args := [d1, d2, d3, d4, d5] }
  | _ => none }
def BoardOnceWrongFalsely : Prop := boardOnceRow.holds Try.pinned (OpenSpec.ofChange boardOnceWrong)

/-- 'pacelinekeep.BoardAll': WHATEVER THE INPUT: true; the input reads as it did. -/
def boardAllSpec : ChangeSpec := { name := "boardAll", fn := fun _ => fun
  | [d1, d2, d3, d4, d5] => { results := [.lit (.bool true)], args := [d1, d2, d3, d4, d5] }
  | _ => none }
def boardAllRow : OpenClaim := { program := "ytmadpjmlcooinaa", sum := "35592517b2fb61b7d0c89ee1f085aa83badbb26f9a92bf804d7ed3c32798fc0b", func := "paceline/pacelinekeep.BoardAll", spec := "boardAll", apart := false }
def BoardAllSaid : Prop := boardAllRow.holds Try.pinned (OpenSpec.ofChange boardAllSpec)

/-- ITS FALSE NEIGHBOUR: 'it returns false'. Refute it at one input. -/
def boardAllWrong : ChangeSpec := { name := "boardAll", fn := fun _ => fun
  | [d1, d2, d3, d4, d5] => { results := [.lit (.bool false)], args := [d1, d2, d3, d4, d5] }
  | _ => none }
def BoardAllWrongFalsely : Prop := boardAllRow.holds Try.pinned (OpenSpec.ofChange boardAllWrong)

/-- 'pacelinekeep.BoardTurns': WHATEVER THE INPUT: true; the input reads as it did. -/
def boardTurnsSpec : ChangeSpec := { name := "boardTurns", fn := fun _ => fun
  | [d1, d2, d3, d4] => { results := [.lit (.bool true)], args := [d1, d2, d3, d4] }
  | _ => none }
def boardTurnsRow : OpenClaim := { program := "ytmadpjmlcooinaa", sum := "35592517b2fb61b7d0c89ee1f085aa83badbb26f9a92bf804d7ed3c32798fc0b", func := "paceline/pacelinekeep.BoardTurns", spec := "boardTurns", apart := false }
def BoardTurnsSaid : Prop := boardTurnsRow.holds Try.pinned (OpenSpec.ofChange boardTurnsSpec)

/-- ITS FALSE NEIGHBOUR: 'it returns false'. Refute it at one input. -/
def boardTurnsWrong : ChangeSpec := { name := "boardTurns", fn := fun _ => fun
  | [d1, d2, d3, d4] => { results := [.lit (.bool false)], args := [d1, d2, d3, d4] }
  | _ => none }
def BoardTurnsWrongFalsely : Prop := boardTurnsRow.holds Try.pinned (OpenSpec.ofChange boardTurnsWrong)

/-- 'pacelinekeep.DiskBack': WHATEVER THE INPUT: true; the input reads as it did. -/
def diskBackSpec : ChangeSpec := { name := "diskBack", fn := fun _ => fun
  | [d1, d2, d3, d4] => { results := [.lit (.bool true)], args := [d1, d2, d3, d4] }
  | _ => none }
def diskBackRow : OpenClaim := { program := "ytmadpjmlcooinaa", sum := "35592517b2fb61b7d0c89ee1f085aa83badbb26f9a92bf804d7ed3c32798fc0b", func := "paceline/pacelinekeep.DiskBack", spec := "diskBack", unfollowed := true, recurses := true, apart := false }
def DiskBackSaid : Prop := diskBackRow.holds Try.pinned (OpenSpec.ofChange diskBackSpec)

/-- ITS FALSE NEIGHBOUR: 'it returns false'. Refute it at one input. -/
def diskBackWrong : ChangeSpec := { name := "diskBack", fn := fun _ => fun
  | [d1, d2, d3, d4] => { results := [.lit (.bool false)], args := [d1, d2, d3, d4] }
  | _ => none }
def DiskBackWrongFalsely : Prop := diskBackRow.holds Try.pinned (OpenSpec.ofChange diskBackWrong)

/-- 'pacelinekeep.RenameMoves': WHATEVER THE INPUT: true; the input reads as it did. -/
def renameMovesSpec : ChangeSpec := { name := "renameMoves", fn := fun _ => fun
  | [d1, d2, d3] => { results := [.lit (.bool true)], args := [d1, d2, d3] }
  | _ => none }
def renameMovesRow : OpenClaim := { program := "ytmadpjmlcooinaa", sum := "35592517b2fb61b7d0c89ee1f085aa83badbb26f9a92bf804d7ed3c32798fc0b", func := "paceline/pacelinekeep.RenameMoves", spec := "renameMoves", unfollowed := true, recurses := true, apart := false }
def RenameMovesSaid : Prop := renameMovesRow.holds Try.pinned (OpenSpec.ofChange renameMovesSpec)

/-- ITS FALSE NEIGHBOUR: 'it returns false'. Refute it at one input. -/
def renameMovesWrong : ChangeSpec := { name := "renameMoves", fn := fun _ => fun
  | [d1, d2, d3] => { results := [.lit (.bool false)], args := [d1, d2, d3] }
  | _ => none }
def RenameMovesWrongFalsely : Prop := renameMovesRow.holds Try.pinned (OpenSpec.ofChange renameMovesWrong)

/-- 'pacelinekeep.CrashKeeps': WHATEVER THE INPUT: true; the input reads as it did. -/
def crashKeepsSpec : ChangeSpec := { name := "crashKeeps", fn := fun _ => fun
  | [d1, d2, d3, d4, d5] => { results := [.lit (.bool true)], args := [d1, d2, d3, d4, d5] }
  | _ => none }
def crashKeepsRow : OpenClaim := { program := "ytmadpjmlcooinaa", sum := "35592517b2fb61b7d0c89ee1f085aa83badbb26f9a92bf804d7ed3c32798fc0b", func := "paceline/pacelinekeep.CrashKeeps", spec := "crashKeeps", unfollowed := true, recurses := true, apart := false }
def CrashKeepsSaid : Prop := crashKeepsRow.holds Try.pinned (OpenSpec.ofChange crashKeepsSpec)

/-- ITS FALSE NEIGHBOUR: 'it returns false'. Refute it at one input. -/
def crashKeepsWrong : ChangeSpec := { name := "crashKeeps", fn := fun _ => fun
  | [d1, d2, d3, d4, d5] => { results := [.lit (.bool false)], args := [d1, d2, d3, d4, d5] }
  | _ => none }
def CrashKeepsWrongFalsely : Prop := crashKeepsRow.holds Try.pinned (OpenSpec.ofChange crashKeepsWrong)

/-- 'pacelinekeep.SyncAlone': WHATEVER THE INPUT: true; the input reads as it did. -/
def syncAloneSpec : ChangeSpec := { name := "syncAlone", fn := fun _ => fun
  | [d1, d2, d3, d4] => { results := [.lit (.bool true)], args := [d1, d2, d3, d4] }
  | _ => none }
def syncAloneRow : OpenClaim := { program := "ytmadpjmlcooinaa", sum := "35592517b2fb61b7d0c89ee1f085aa83badbb26f9a92bf804d7ed3c32798fc0b", func := "paceline/pacelinekeep.SyncAlone", spec := "syncAlone", unfollowed := true, recurses := true, apart := false }
def SyncAloneSaid : Prop := syncAloneRow.holds Try.pinned (OpenSpec.ofChange syncAloneSpec)

/-- ITS FALSE NEIGHBOUR: 'it returns false'. Refute it at one input. -/
def syncAloneWrong : ChangeSpec := { name := "syncAlone", fn := fun _ => fun
  | [d1, d2, d3, d4] => { results := [.lit (.bool false)], args := [d1, d2, d3, d4] }
  | _ => none }
def SyncAloneWrongFalsely : Prop := syncAloneRow.holds Try.pinned (OpenSpec.ofChange syncAloneWrong)

/-- 'pacelinekeep.CrashAgain': WHATEVER THE INPUT: true; the input reads as it did. -/
def crashAgainSpec : ChangeSpec := { name := "crashAgain", fn := fun _ => fun
  | [d1, d2, d3, d4] => { results := [.lit (.bool true)], args := [d1, d2, d3, d4] }
  | _ => none }
def crashAgainRow : OpenClaim := { program := "ytmadpjmlcooinaa", sum := "35592517b2fb61b7d0c89ee1f085aa83badbb26f9a92bf804d7ed3c32798fc0b", func := "paceline/pacelinekeep.CrashAgain", spec := "crashAgain", unfollowed := true, recurses := true, apart := false }
def CrashAgainSaid : Prop := crashAgainRow.holds Try.pinned (OpenSpec.ofChange crashAgainSpec)

/-- ITS FALSE NEIGHBOUR: 'it returns false'. Refute it at one input. -/
def crashAgainWrong : ChangeSpec := { name := "crashAgain", fn := fun _ => fun
  | [d1, d2, d3, d4] => { results := [.lit (.bool false)], args := [d1, d2, d3, d4] }
  | _ => none }
def CrashAgainWrongFalsely : Prop := crashAgainRow.holds Try.pinned (OpenSpec.ofChange crashAgainWrong)

/- THE SECOND FORM. 'bulk': how many values and letters a reading holds, each counted each time it is reached (what is shared counts as often as it is met; a slice's spare places count too). A statement '..UptoSaid' is the law's where the arguments, and the package variables that the reading takes, are together of bulk at most 1048576: NARROWER than '..Said'. Prove '..Said' where nothing that the law and all that it calls make is longer than what came in: it says more and counts as full. Else prove '..UptoSaid'. A law counts once. -/
mutual
def uptoBulk {H : Type} : DataW H → Nat
  | .lit (.string bytes) => bytes.length + 1
  | .lit _ => 1
  | .nil => 1
  | .ptr d => uptoBulk d + 1
  | .slice elems spare => uptoBulkAll elems + uptoBulkAll spare + 1
  | .agg parts => uptoBulkAll parts + 1
  | .iface _ d => uptoBulk d + 1
  | .map entries => uptoBulkEntries entries + 1
  | .held _ => 1
def uptoBulkAll {H : Type} : List (DataW H) → Nat
  | [] => 0
  | d :: r => uptoBulk d + uptoBulkAll r
def uptoBulkEntries {H : Type} : List (Lit × DataW H) → Nat
  | [] => 0
  | x :: r => uptoBulkEntry x + uptoBulkEntries r
def uptoBulkEntry {H : Type} : Lit × DataW H → Nat
  | (.string bytes, d) => bytes.length + uptoBulk d + 1
  | (_, d) => uptoBulk d + 1
 end
def uptoSmall : (H : Type) → List (DataW H) → Bool := fun _ ds => decide (uptoBulkAll ds ≤ 1048576)
def OpenSpec.upto (s : _root_.Go.ChangeSpec) : _root_.Go.OpenSpec := { _root_.Go.OpenSpec.ofChange s with cond := some uptoSmall }

/-- 'pacelinekeep.LinkOrder', WHERE WHAT IT READS IS OF BULK AT MOST 1048576: true; the input reads as it did. -/
def linkOrderUptoRow : OpenClaim := { program := "ytmadpjmlcooinaa", sum := "35592517b2fb61b7d0c89ee1f085aa83badbb26f9a92bf804d7ed3c32798fc0b", func := "paceline/pacelinekeep.LinkOrder", spec := "linkOrder", apart := false, narrowed := true }
def LinkOrderUptoSaid : Prop := linkOrderUptoRow.holds Try.pinned (OpenSpec.upto linkOrderSpec)

/-- 'pacelinekeep.LinkAll', WHERE WHAT IT READS IS OF BULK AT MOST 1048576: true; the input reads as it did. -/
def linkAllUptoRow : OpenClaim := { program := "ytmadpjmlcooinaa", sum := "35592517b2fb61b7d0c89ee1f085aa83badbb26f9a92bf804d7ed3c32798fc0b", func := "paceline/pacelinekeep.LinkAll", spec := "linkAll", apart := false, narrowed := true }
def LinkAllUptoSaid : Prop := linkAllUptoRow.holds Try.pinned (OpenSpec.upto linkAllSpec)

/-- 'pacelinekeep.LinkEpoch', WHERE WHAT IT READS IS OF BULK AT MOST 1048576: true; the input reads as it did. -/
def linkEpochUptoRow : OpenClaim := { program := "ytmadpjmlcooinaa", sum := "35592517b2fb61b7d0c89ee1f085aa83badbb26f9a92bf804d7ed3c32798fc0b", func := "paceline/pacelinekeep.LinkEpoch", spec := "linkEpoch", apart := false, narrowed := true }
def LinkEpochUptoSaid : Prop := linkEpochUptoRow.holds Try.pinned (OpenSpec.upto linkEpochSpec)

/-- 'pacelinekeep.BoardOnce', WHERE WHAT IT READS IS OF BULK AT MOST 1048576: true; the input reads as it did. -/
def boardOnceUptoRow : OpenClaim := { program := "ytmadpjmlcooinaa", sum := "35592517b2fb61b7d0c89ee1f085aa83badbb26f9a92bf804d7ed3c32798fc0b", func := "paceline/pacelinekeep.BoardOnce", spec := "boardOnce", apart := false, narrowed := true }
def BoardOnceUptoSaid : Prop := boardOnceUptoRow.holds Try.pinned (OpenSpec.upto boardOnceSpec)

/-- 'pacelinekeep.BoardAll', WHERE WHAT IT READS IS OF BULK AT MOST 1048576: true; the input reads as it did. -/
def boardAllUptoRow : OpenClaim := { program := "ytmadpjmlcooinaa", sum := "35592517b2fb61b7d0c89ee1f085aa83badbb26f9a92bf804d7ed3c32798fc0b", func := "paceline/pacelinekeep.BoardAll", spec := "boardAll", apart := false, narrowed := true }
def BoardAllUptoSaid : Prop := boardAllUptoRow.holds Try.pinned (OpenSpec.upto boardAllSpec)

/-- 'pacelinekeep.BoardTurns', WHERE WHAT IT READS IS OF BULK AT MOST 1048576: true; the input reads as it did. -/
def boardTurnsUptoRow : OpenClaim := { program := "ytmadpjmlcooinaa", sum := "35592517b2fb61b7d0c89ee1f085aa83badbb26f9a92bf804d7ed3c32798fc0b", func := "paceline/pacelinekeep.BoardTurns", spec := "boardTurns", apart := false, narrowed := true }
def BoardTurnsUptoSaid : Prop := boardTurnsUptoRow.holds Try.pinned (OpenSpec.upto boardTurnsSpec)

/-- 'pacelinekeep.DiskBack', WHERE WHAT IT READS IS OF BULK AT MOST 1048576: true; the input reads as it did. -/
def diskBackUptoRow : OpenClaim := { program := "ytmadpjmlcooinaa", sum := "35592517b2fb61b7d0c89ee1f085aa83badbb26f9a92bf804d7ed3c32798fc0b", func := "paceline/pacelinekeep.DiskBack", spec := "diskBack", unfollowed := true, recurses := true, apart := false, narrowed := true }
def DiskBackUptoSaid : Prop := diskBackUptoRow.holds Try.pinned (OpenSpec.upto diskBackSpec)

/-- 'pacelinekeep.RenameMoves', WHERE WHAT IT READS IS OF BULK AT MOST 1048576: true; the input reads as it did. -/
def renameMovesUptoRow : OpenClaim := { program := "ytmadpjmlcooinaa", sum := "35592517b2fb61b7d0c89ee1f085aa83badbb26f9a92bf804d7ed3c32798fc0b", func := "paceline/pacelinekeep.RenameMoves", spec := "renameMoves", unfollowed := true, recurses := true, apart := false, narrowed := true }
def RenameMovesUptoSaid : Prop := renameMovesUptoRow.holds Try.pinned (OpenSpec.upto renameMovesSpec)

/-- 'pacelinekeep.CrashKeeps', WHERE WHAT IT READS IS OF BULK AT MOST 1048576: true; the input reads as it did. -/
def crashKeepsUptoRow : OpenClaim := { program := "ytmadpjmlcooinaa", sum := "35592517b2fb61b7d0c89ee1f085aa83badbb26f9a92bf804d7ed3c32798fc0b", func := "paceline/pacelinekeep.CrashKeeps", spec := "crashKeeps", unfollowed := true, recurses := true, apart := false, narrowed := true }
def CrashKeepsUptoSaid : Prop := crashKeepsUptoRow.holds Try.pinned (OpenSpec.upto crashKeepsSpec)

/-- 'pacelinekeep.SyncAlone', WHERE WHAT IT READS IS OF BULK AT MOST 1048576: true; the input reads as it did. -/
def syncAloneUptoRow : OpenClaim := { program := "ytmadpjmlcooinaa", sum := "35592517b2fb61b7d0c89ee1f085aa83badbb26f9a92bf804d7ed3c32798fc0b", func := "paceline/pacelinekeep.SyncAlone", spec := "syncAlone", unfollowed := true, recurses := true, apart := false, narrowed := true }
def SyncAloneUptoSaid : Prop := syncAloneUptoRow.holds Try.pinned (OpenSpec.upto syncAloneSpec)

/-- 'pacelinekeep.CrashAgain', WHERE WHAT IT READS IS OF BULK AT MOST 1048576: true; the input reads as it did. -/
def crashAgainUptoRow : OpenClaim := { program := "ytmadpjmlcooinaa", sum := "35592517b2fb61b7d0c89ee1f085aa83badbb26f9a92bf804d7ed3c32798fc0b", func := "paceline/pacelinekeep.CrashAgain", spec := "crashAgain", unfollowed := true, recurses := true, apart := false, narrowed := true }
def CrashAgainUptoSaid : Prop := crashAgainUptoRow.holds Try.pinned (OpenSpec.upto crashAgainSpec)

end Rows
end Go.Proofs.Ytmadpjmlcooinaa
