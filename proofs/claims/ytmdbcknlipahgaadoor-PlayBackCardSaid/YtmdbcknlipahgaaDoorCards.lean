/-
  DERIVED. GIVEN WITH THE SEED: THE CARDS: each row of YtmdbcknlipahgaaDoorRows.lean that lists a variable, with what it lists TIED to the program's text (the seventh form; the later family's looks); each row that meets fmt, with fmt's text TOLD by the authors' own Lean function (tested against real Go, not proved from fmt's source: count such statements apart). THE CARD IS WHAT COUNTS. Prove the row's statement (the work); the ties are given (YtmdbcknlipahgaaDoorTie.lean); close each card by the builder's one call (the guide's Derived/Test/ToyasCard.lean, 'card_holds'). Laid BY PROGRAM, IN A SANDBOX (cutbox-door.mjs). By AI agents, Wed Nov 11 2026. No macro, syntax, notation, axiom, sorry.
-/
import Derived.Test.YtmdbcknlipahgaaDoorRows
import GoSem.ClaimSeven
namespace Go.Proofs.YtmdbcknlipahgaaDoor
namespace Rows

/-- THE TIED CARD OF 'pacelinekeep.SheetBack'. -/
def sheetBackCard : Claim7 := { stood := { row := sheetBackRow, standIns := [], harness := (true, "046ca20ff96899a68aceec90d4b18ad2447532a1f30bffd5d96fe6b1185ff9c3"), looks := true }, kinds := [], alts := [], laidByText := true, laidKinds := [.data, .data, .data, .data, .sentinel, .sentinel, .pinned], laidTests := true, laidLooks := .later }
def SheetBackCardSaid : Prop := Claim7.holds Tryd.pinned (.plain (OpenSpec.ofChange sheetBackSpec)) sheetBackCard

/-- THE TIED CARD OF 'pacelinekeep.SheetFixed'. -/
def sheetFixedCard : Claim7 := { stood := { row := sheetFixedRow, standIns := [], harness := (true, "046ca20ff96899a68aceec90d4b18ad2447532a1f30bffd5d96fe6b1185ff9c3"), looks := true }, kinds := [], alts := [], laidByText := true, laidKinds := [.data, .data, .data, .data, .sentinel, .sentinel, .pinned], laidTests := true, laidLooks := .later }
def SheetFixedCardSaid : Prop := Claim7.holds Tryd.pinned (.plain (OpenSpec.ofChange sheetFixedSpec)) sheetFixedCard

/-- THE TIED CARD OF 'pacelinekeep.PlayBack'. -/
def playBackCard : Claim7 := { stood := { row := playBackRow, standIns := [], harness := (true, "046ca20ff96899a68aceec90d4b18ad2447532a1f30bffd5d96fe6b1185ff9c3"), looks := true }, kinds := [], alts := [], laidByText := true, laidKinds := [.data, .data, .data, .data, .sentinel, .sentinel, .data, .pinned], laidTests := true, laidLooks := .later }
def PlayBackCardSaid : Prop := Claim7.holds Tryd.pinned (.plain (OpenSpec.ofChange playBackSpec)) playBackCard

/-- THE TIED CARD OF 'pacelinekeep.PlayFixed'. -/
def playFixedCard : Claim7 := { stood := { row := playFixedRow, standIns := [], harness := (true, "046ca20ff96899a68aceec90d4b18ad2447532a1f30bffd5d96fe6b1185ff9c3"), looks := true }, kinds := [], alts := [], laidByText := true, laidKinds := [.data, .data, .data, .data, .sentinel, .sentinel, .data, .pinned], laidTests := true, laidLooks := .later }
def PlayFixedCardSaid : Prop := Claim7.holds Tryd.pinned (.plain (OpenSpec.ofChange playFixedSpec)) playFixedCard

/-- THE TIED CARD OF 'pacelinekeep.CkptBack'. -/
def ckptBackCard : Claim7 := { stood := { row := ckptBackRow, standIns := [], harness := (true, "046ca20ff96899a68aceec90d4b18ad2447532a1f30bffd5d96fe6b1185ff9c3"), looks := true }, kinds := [], alts := [], laidByText := true, laidKinds := [.data, .data, .data], laidTests := true, laidLooks := .later }
def CkptBackCardSaid : Prop := Claim7.holds Tryd.pinned (.plain (OpenSpec.ofChange ckptBackSpec)) ckptBackCard

/-- THE TIED CARD OF 'pacelinekeep.CkptTorn'. -/
def ckptTornCard : Claim7 := { stood := { row := ckptTornRow, standIns := [], harness := (true, "046ca20ff96899a68aceec90d4b18ad2447532a1f30bffd5d96fe6b1185ff9c3"), looks := true }, kinds := [], alts := [], laidByText := true, laidKinds := [.data, .data, .data], laidTests := true, laidLooks := .later }
def CkptTornCardSaid : Prop := Claim7.holds Tryd.pinned (.plain (OpenSpec.ofChange ckptTornSpec)) ckptTornCard

/-- THE TIED CARD OF 'pacelinekeep.CkptNewest'. -/
def ckptNewestCard : Claim7 := { stood := { row := ckptNewestRow, standIns := [], harness := (true, "046ca20ff96899a68aceec90d4b18ad2447532a1f30bffd5d96fe6b1185ff9c3"), looks := true }, kinds := [], alts := [], laidByText := true, laidKinds := [.data, .data, .data], laidTests := true, laidLooks := .later }
def CkptNewestCardSaid : Prop := Claim7.holds Tryd.pinned (.plain (OpenSpec.ofChange ckptNewestSpec)) ckptNewestCard

/-- THE SECOND FORM's CARD OF 'pacelinekeep.SheetBack'. -/
def sheetBackUptoCard : Claim7 := { stood := { row := sheetBackUptoRow, standIns := [], harness := (true, "046ca20ff96899a68aceec90d4b18ad2447532a1f30bffd5d96fe6b1185ff9c3"), looks := true }, kinds := [], alts := [], laidByText := true, laidKinds := [.data, .data, .data, .data, .sentinel, .sentinel, .pinned], laidTests := true, laidLooks := .later }
def SheetBackUptoCardSaid : Prop := Claim7.holds Tryd.pinned (.plain (OpenSpec.upto sheetBackSpec)) sheetBackUptoCard

/-- THE SECOND FORM's CARD OF 'pacelinekeep.SheetFixed'. -/
def sheetFixedUptoCard : Claim7 := { stood := { row := sheetFixedUptoRow, standIns := [], harness := (true, "046ca20ff96899a68aceec90d4b18ad2447532a1f30bffd5d96fe6b1185ff9c3"), looks := true }, kinds := [], alts := [], laidByText := true, laidKinds := [.data, .data, .data, .data, .sentinel, .sentinel, .pinned], laidTests := true, laidLooks := .later }
def SheetFixedUptoCardSaid : Prop := Claim7.holds Tryd.pinned (.plain (OpenSpec.upto sheetFixedSpec)) sheetFixedUptoCard

/-- THE SECOND FORM's CARD OF 'pacelinekeep.PlayBack'. -/
def playBackUptoCard : Claim7 := { stood := { row := playBackUptoRow, standIns := [], harness := (true, "046ca20ff96899a68aceec90d4b18ad2447532a1f30bffd5d96fe6b1185ff9c3"), looks := true }, kinds := [], alts := [], laidByText := true, laidKinds := [.data, .data, .data, .data, .sentinel, .sentinel, .data, .pinned], laidTests := true, laidLooks := .later }
def PlayBackUptoCardSaid : Prop := Claim7.holds Tryd.pinned (.plain (OpenSpec.upto playBackSpec)) playBackUptoCard

/-- THE SECOND FORM's CARD OF 'pacelinekeep.PlayFixed'. -/
def playFixedUptoCard : Claim7 := { stood := { row := playFixedUptoRow, standIns := [], harness := (true, "046ca20ff96899a68aceec90d4b18ad2447532a1f30bffd5d96fe6b1185ff9c3"), looks := true }, kinds := [], alts := [], laidByText := true, laidKinds := [.data, .data, .data, .data, .sentinel, .sentinel, .data, .pinned], laidTests := true, laidLooks := .later }
def PlayFixedUptoCardSaid : Prop := Claim7.holds Tryd.pinned (.plain (OpenSpec.upto playFixedSpec)) playFixedUptoCard

/-- THE SECOND FORM's CARD OF 'pacelinekeep.CkptBack'. -/
def ckptBackUptoCard : Claim7 := { stood := { row := ckptBackUptoRow, standIns := [], harness := (true, "046ca20ff96899a68aceec90d4b18ad2447532a1f30bffd5d96fe6b1185ff9c3"), looks := true }, kinds := [], alts := [], laidByText := true, laidKinds := [.data, .data, .data], laidTests := true, laidLooks := .later }
def CkptBackUptoCardSaid : Prop := Claim7.holds Tryd.pinned (.plain (OpenSpec.upto ckptBackSpec)) ckptBackUptoCard

/-- THE SECOND FORM's CARD OF 'pacelinekeep.CkptTorn'. -/
def ckptTornUptoCard : Claim7 := { stood := { row := ckptTornUptoRow, standIns := [], harness := (true, "046ca20ff96899a68aceec90d4b18ad2447532a1f30bffd5d96fe6b1185ff9c3"), looks := true }, kinds := [], alts := [], laidByText := true, laidKinds := [.data, .data, .data], laidTests := true, laidLooks := .later }
def CkptTornUptoCardSaid : Prop := Claim7.holds Tryd.pinned (.plain (OpenSpec.upto ckptTornSpec)) ckptTornUptoCard

/-- THE SECOND FORM's CARD OF 'pacelinekeep.CkptNewest'. -/
def ckptNewestUptoCard : Claim7 := { stood := { row := ckptNewestUptoRow, standIns := [], harness := (true, "046ca20ff96899a68aceec90d4b18ad2447532a1f30bffd5d96fe6b1185ff9c3"), looks := true }, kinds := [], alts := [], laidByText := true, laidKinds := [.data, .data, .data], laidTests := true, laidLooks := .later }
def CkptNewestUptoCardSaid : Prop := Claim7.holds Tryd.pinned (.plain (OpenSpec.upto ckptNewestSpec)) ckptNewestUptoCard
end Rows
end Go.Proofs.YtmdbcknlipahgaaDoor
