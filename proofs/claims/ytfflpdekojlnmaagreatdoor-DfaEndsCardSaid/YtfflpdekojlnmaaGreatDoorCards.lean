/-
  DERIVED. GIVEN WITH THE SEED: THE CARDS: each row of YtfflpdekojlnmaaGreatDoorRows.lean that lists a variable, with what it lists TIED to the program's text (the seventh form; the later family's looks); each row that meets fmt, with fmt's text TOLD by the authors' own Lean function (tested against real Go, not proved from fmt's source: count such statements apart). THE CARD IS WHAT COUNTS. Prove the row's statement (the work); the ties are given (YtfflpdekojlnmaaGreatDoorTie.lean); close each card by the builder's one call (the guide's Derived/Test/ToyasCard.lean, 'card_holds'). Laid BY PROGRAM, IN A SANDBOX (cutbox-door.mjs). By AI agents, Wed Nov 11 2026. No macro, syntax, notation, axiom, sorry.
-/
import Derived.Test.YtfflpdekojlnmaaGreatDoorRows
import GoSem.ClaimSeven
namespace Go.Proofs.YtfflpdekojlnmaaGreatDoor
namespace Rows

/-- THE TIED CARD OF 'kinescopelaw09.DfaWords'. -/
def dfaWordsCard : Claim7 := { stood := { row := dfaWordsRow, standIns := [], harness := (true, "7a1dc1ab992089881341700146f6ee4fbbdaeda04e6627ddc5b795f63609528f"), looks := false }, kinds := [], alts := [], laidByText := true, laidKinds := [.data, .data, .data], laidTests := true, laidLooks := .later }
def DfaWordsCardSaid : Prop := Claim7.holds Tryz.pinned (.plain (OpenSpec.ofChange dfaWordsSpec)) dfaWordsCard

/-- THE TIED CARD OF 'kinescopelaw09.DfaTells'. -/
def dfaTellsCard : Claim7 := { stood := { row := dfaTellsRow, standIns := [], harness := (true, "7a1dc1ab992089881341700146f6ee4fbbdaeda04e6627ddc5b795f63609528f"), looks := false }, kinds := [], alts := [], laidByText := true, laidKinds := [.data, .data, .data], laidTests := true, laidLooks := .later }
def DfaTellsCardSaid : Prop := Claim7.holds Tryz.pinned (.plain (OpenSpec.ofChange dfaTellsSpec)) dfaTellsCard

/-- THE TIED CARD OF 'kinescopelaw09.DfaEnds'. -/
def dfaEndsCard : Claim7 := { stood := { row := dfaEndsRow, standIns := [], harness := (true, "7a1dc1ab992089881341700146f6ee4fbbdaeda04e6627ddc5b795f63609528f"), looks := false }, kinds := [], alts := [], laidByText := true, laidKinds := [.data, .data, .data], laidTests := true, laidLooks := .later }
def DfaEndsCardSaid : Prop := Claim7.holds Tryz.pinned (.plain (OpenSpec.ofChange dfaEndsSpec)) dfaEndsCard

/-- THE TIED CARD OF 'kinescopelaw09.DfaTakes'. -/
def dfaTakesCard : Claim7 := { stood := { row := dfaTakesRow, standIns := [], harness := (true, "7a1dc1ab992089881341700146f6ee4fbbdaeda04e6627ddc5b795f63609528f"), looks := false }, kinds := [], alts := [], laidByText := true, laidKinds := [.data, .data, .data], laidTests := true, laidLooks := .later }
def DfaTakesCardSaid : Prop := Claim7.holds Tryz.pinned (.plain (OpenSpec.ofChange dfaTakesSpec)) dfaTakesCard

/-- THE SECOND FORM's CARD OF 'kinescopelaw09.DfaWords'. -/
def dfaWordsUptoCard : Claim7 := { stood := { row := dfaWordsUptoRow, standIns := [], harness := (true, "7a1dc1ab992089881341700146f6ee4fbbdaeda04e6627ddc5b795f63609528f"), looks := false }, kinds := [], alts := [], laidByText := true, laidKinds := [.data, .data, .data], laidTests := true, laidLooks := .later }
def DfaWordsUptoCardSaid : Prop := Claim7.holds Tryz.pinned (.plain (OpenSpec.upto dfaWordsSpec)) dfaWordsUptoCard

/-- THE SECOND FORM's CARD OF 'kinescopelaw09.DfaTells'. -/
def dfaTellsUptoCard : Claim7 := { stood := { row := dfaTellsUptoRow, standIns := [], harness := (true, "7a1dc1ab992089881341700146f6ee4fbbdaeda04e6627ddc5b795f63609528f"), looks := false }, kinds := [], alts := [], laidByText := true, laidKinds := [.data, .data, .data], laidTests := true, laidLooks := .later }
def DfaTellsUptoCardSaid : Prop := Claim7.holds Tryz.pinned (.plain (OpenSpec.upto dfaTellsSpec)) dfaTellsUptoCard

/-- THE SECOND FORM's CARD OF 'kinescopelaw09.DfaEnds'. -/
def dfaEndsUptoCard : Claim7 := { stood := { row := dfaEndsUptoRow, standIns := [], harness := (true, "7a1dc1ab992089881341700146f6ee4fbbdaeda04e6627ddc5b795f63609528f"), looks := false }, kinds := [], alts := [], laidByText := true, laidKinds := [.data, .data, .data], laidTests := true, laidLooks := .later }
def DfaEndsUptoCardSaid : Prop := Claim7.holds Tryz.pinned (.plain (OpenSpec.upto dfaEndsSpec)) dfaEndsUptoCard

/-- THE SECOND FORM's CARD OF 'kinescopelaw09.DfaTakes'. -/
def dfaTakesUptoCard : Claim7 := { stood := { row := dfaTakesUptoRow, standIns := [], harness := (true, "7a1dc1ab992089881341700146f6ee4fbbdaeda04e6627ddc5b795f63609528f"), looks := false }, kinds := [], alts := [], laidByText := true, laidKinds := [.data, .data, .data], laidTests := true, laidLooks := .later }
def DfaTakesUptoCardSaid : Prop := Claim7.holds Tryz.pinned (.plain (OpenSpec.upto dfaTakesSpec)) dfaTakesUptoCard
end Rows
end Go.Proofs.YtfflpdekojlnmaaGreatDoor
