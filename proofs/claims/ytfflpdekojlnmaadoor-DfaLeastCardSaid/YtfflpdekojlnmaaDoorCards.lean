/-
  DERIVED. GIVEN WITH THE SEED: THE CARDS: each row of YtfflpdekojlnmaaDoorRows.lean that lists a variable, with what it lists TIED to the program's text (the seventh form; the later family's looks); each row that meets fmt, with fmt's text TOLD by the authors' own Lean function (tested against real Go, not proved from fmt's source: count such statements apart). THE CARD IS WHAT COUNTS. Prove the row's statement (the work); the ties are given (YtfflpdekojlnmaaDoorTie.lean); close each card by the builder's one call (the guide's Derived/Test/ToyasCard.lean, 'card_holds'). Laid BY PROGRAM, IN A SANDBOX (cutbox-door.mjs). By AI agents, Wed Nov 11 2026. No macro, syntax, notation, axiom, sorry.
-/
import Derived.Test.YtfflpdekojlnmaaDoorRows
import GoSem.ClaimSeven
namespace Go.Proofs.YtfflpdekojlnmaaDoor
namespace Rows

/-- THE TIED CARD OF 'kinescopelaw09.DfaLeast'. -/
def dfaLeastCard : Claim7 := { stood := { row := dfaLeastRow, standIns := [], harness := (true, "2a58aa1598a32c008dd9f76aa84c5a1727f7dfe3f5b6e766ce1a2484f4635c19"), looks := false }, kinds := [], alts := [], laidByText := true, laidKinds := [.data, .data, .data], laidTests := true, laidLooks := .later }
def DfaLeastCardSaid : Prop := Claim7.holds Tryd.pinned (.plain (OpenSpec.ofChange dfaLeastSpec)) dfaLeastCard

/-- THE SECOND FORM's CARD OF 'kinescopelaw09.DfaLeast'. -/
def dfaLeastUptoCard : Claim7 := { stood := { row := dfaLeastUptoRow, standIns := [], harness := (true, "2a58aa1598a32c008dd9f76aa84c5a1727f7dfe3f5b6e766ce1a2484f4635c19"), looks := false }, kinds := [], alts := [], laidByText := true, laidKinds := [.data, .data, .data], laidTests := true, laidLooks := .later }
def DfaLeastUptoCardSaid : Prop := Claim7.holds Tryd.pinned (.plain (OpenSpec.upto dfaLeastSpec)) dfaLeastUptoCard
end Rows
end Go.Proofs.YtfflpdekojlnmaaDoor
