/-
  DERIVED. GIVEN WITH THE SEED: THE CARDS: each row of YtlhhccmopfamhaaGreatDoorRows.lean that lists a variable, with what it lists TIED to the program's text (the seventh form; the later family's looks); each row that meets fmt, with fmt's text TOLD by the authors' own Lean function (tested against real Go, not proved from fmt's source: count such statements apart). THE CARD IS WHAT COUNTS. Prove the row's statement (the work); the ties are given (YtlhhccmopfamhaaGreatDoorTie.lean); close each card by the builder's one call (the guide's Derived/Test/ToyasCard.lean, 'card_holds'). Laid BY PROGRAM, IN A SANDBOX (cutbox-door.mjs). By AI agents, Wed Nov 11 2026. No macro, syntax, notation, axiom, sorry.
-/
import Derived.Test.YtlhhccmopfamhaaGreatDoorRows
import GoSem.ClaimSeven
namespace Go.Proofs.YtlhhccmopfamhaaGreatDoor
namespace Rows

/-- THE TIED CARD OF 'kinescopelaw15.PathCuts'. -/
def pathCutsCard : Claim7 := { stood := { row := pathCutsRow, standIns := [], harness := (true, "7dfbbd532612f07afde076f51ab488d683d7955fa1379095d78d9dc9a842578e"), looks := false }, kinds := [], alts := [], laidByText := true, laidKinds := [.data, .data, .data], laidTests := true, laidLooks := .later }
def PathCutsCardSaid : Prop := Claim7.holds Tryz.pinned (.plain (OpenSpec.ofChange pathCutsSpec)) pathCutsCard

/-- THE TIED CARD OF 'kinescopelaw15.PathTells'. -/
def pathTellsCard : Claim7 := { stood := { row := pathTellsRow, standIns := [], harness := (true, "7dfbbd532612f07afde076f51ab488d683d7955fa1379095d78d9dc9a842578e"), looks := false }, kinds := [], alts := [], laidByText := true, laidKinds := [.data, .data, .data], laidTests := true, laidLooks := .later }
def PathTellsCardSaid : Prop := Claim7.holds Tryz.pinned (.plain (OpenSpec.ofChange pathTellsSpec)) pathTellsCard

/-- THE TIED CARD OF 'kinescopelaw15.PathEnds'. -/
def pathEndsCard : Claim7 := { stood := { row := pathEndsRow, standIns := [], harness := (true, "7dfbbd532612f07afde076f51ab488d683d7955fa1379095d78d9dc9a842578e"), looks := false }, kinds := [], alts := [], laidByText := true, laidKinds := [.data, .data, .data], laidTests := true, laidLooks := .later }
def PathEndsCardSaid : Prop := Claim7.holds Tryz.pinned (.plain (OpenSpec.ofChange pathEndsSpec)) pathEndsCard

/-- THE TIED CARD OF 'kinescopelaw15.PathWalks'. -/
def pathWalksCard : Claim7 := { stood := { row := pathWalksRow, standIns := [], harness := (true, "7dfbbd532612f07afde076f51ab488d683d7955fa1379095d78d9dc9a842578e"), looks := false }, kinds := [], alts := [], laidByText := true, laidKinds := [.data, .data, .data], laidTests := true, laidLooks := .later }
def PathWalksCardSaid : Prop := Claim7.holds Tryz.pinned (.plain (OpenSpec.ofChange pathWalksSpec)) pathWalksCard

/-- THE SECOND FORM's CARD OF 'kinescopelaw15.PathCuts'. -/
def pathCutsUptoCard : Claim7 := { stood := { row := pathCutsUptoRow, standIns := [], harness := (true, "7dfbbd532612f07afde076f51ab488d683d7955fa1379095d78d9dc9a842578e"), looks := false }, kinds := [], alts := [], laidByText := true, laidKinds := [.data, .data, .data], laidTests := true, laidLooks := .later }
def PathCutsUptoCardSaid : Prop := Claim7.holds Tryz.pinned (.plain (OpenSpec.upto pathCutsSpec)) pathCutsUptoCard

/-- THE SECOND FORM's CARD OF 'kinescopelaw15.PathTells'. -/
def pathTellsUptoCard : Claim7 := { stood := { row := pathTellsUptoRow, standIns := [], harness := (true, "7dfbbd532612f07afde076f51ab488d683d7955fa1379095d78d9dc9a842578e"), looks := false }, kinds := [], alts := [], laidByText := true, laidKinds := [.data, .data, .data], laidTests := true, laidLooks := .later }
def PathTellsUptoCardSaid : Prop := Claim7.holds Tryz.pinned (.plain (OpenSpec.upto pathTellsSpec)) pathTellsUptoCard

/-- THE SECOND FORM's CARD OF 'kinescopelaw15.PathEnds'. -/
def pathEndsUptoCard : Claim7 := { stood := { row := pathEndsUptoRow, standIns := [], harness := (true, "7dfbbd532612f07afde076f51ab488d683d7955fa1379095d78d9dc9a842578e"), looks := false }, kinds := [], alts := [], laidByText := true, laidKinds := [.data, .data, .data], laidTests := true, laidLooks := .later }
def PathEndsUptoCardSaid : Prop := Claim7.holds Tryz.pinned (.plain (OpenSpec.upto pathEndsSpec)) pathEndsUptoCard

/-- THE SECOND FORM's CARD OF 'kinescopelaw15.PathWalks'. -/
def pathWalksUptoCard : Claim7 := { stood := { row := pathWalksUptoRow, standIns := [], harness := (true, "7dfbbd532612f07afde076f51ab488d683d7955fa1379095d78d9dc9a842578e"), looks := false }, kinds := [], alts := [], laidByText := true, laidKinds := [.data, .data, .data], laidTests := true, laidLooks := .later }
def PathWalksUptoCardSaid : Prop := Claim7.holds Tryz.pinned (.plain (OpenSpec.upto pathWalksSpec)) pathWalksUptoCard
end Rows
end Go.Proofs.YtlhhccmopfamhaaGreatDoor
