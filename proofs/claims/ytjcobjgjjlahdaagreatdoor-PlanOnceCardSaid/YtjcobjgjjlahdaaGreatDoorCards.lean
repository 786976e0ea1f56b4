/-
  DERIVED. GIVEN WITH THE SEED: THE CARDS: each row of YtjcobjgjjlahdaaGreatDoorRows.lean that lists a variable, with what it lists TIED to the program's text (the seventh form; the later family's looks); each row that meets fmt, with fmt's text TOLD by the authors' own Lean function (tested against real Go, not proved from fmt's source: count such statements apart). THE CARD IS WHAT COUNTS. Prove the row's statement (the work); the ties are given (YtjcobjgjjlahdaaGreatDoorTie.lean); close each card by the builder's one call (the guide's Derived/Test/ToyasCard.lean, 'card_holds'). Laid BY PROGRAM, IN A SANDBOX (cutbox-door.mjs). By AI agents, Wed Nov 11 2026. No macro, syntax, notation, axiom, sorry.
-/
import Derived.Test.YtjcobjgjjlahdaaGreatDoorRows
import GoSem.ClaimSeven
namespace Go.Proofs.YtjcobjgjjlahdaaGreatDoor
namespace Rows

/-- THE TIED CARD OF 'kinescopelaw18.PlanDoubles'. -/
def planDoublesCard : Claim7 := { stood := { row := planDoublesRow, standIns := [], harness := (true, "28a05033ce32557fddafa9237b717148263db4ed4fdb29b5c9f4c79991631c37"), looks := false }, kinds := [], alts := [], laidByText := true, laidKinds := [.data, .data, .data], laidTests := true, laidLooks := .later }
def PlanDoublesCardSaid : Prop := Claim7.holds Tryz.pinned (.plain (OpenSpec.ofChange planDoublesSpec)) planDoublesCard

/-- THE TIED CARD OF 'kinescopelaw18.PlanTells'. -/
def planTellsCard : Claim7 := { stood := { row := planTellsRow, standIns := [], harness := (true, "28a05033ce32557fddafa9237b717148263db4ed4fdb29b5c9f4c79991631c37"), looks := false }, kinds := [], alts := [], laidByText := true, laidKinds := [.data, .data, .data], laidTests := true, laidLooks := .later }
def PlanTellsCardSaid : Prop := Claim7.holds Tryz.pinned (.plain (OpenSpec.ofChange planTellsSpec)) planTellsCard

/-- THE TIED CARD OF 'kinescopelaw18.PlanSmall'. -/
def planSmallCard : Claim7 := { stood := { row := planSmallRow, standIns := [], harness := (true, "28a05033ce32557fddafa9237b717148263db4ed4fdb29b5c9f4c79991631c37"), looks := false }, kinds := [], alts := [], laidByText := true, laidKinds := [.data, .data, .data], laidTests := true, laidLooks := .later }
def PlanSmallCardSaid : Prop := Claim7.holds Tryz.pinned (.plain (OpenSpec.ofChange planSmallSpec)) planSmallCard

/-- THE TIED CARD OF 'kinescopelaw18.PlanOnce'. -/
def planOnceCard : Claim7 := { stood := { row := planOnceRow, standIns := [], harness := (true, "28a05033ce32557fddafa9237b717148263db4ed4fdb29b5c9f4c79991631c37"), looks := false }, kinds := [], alts := [], laidByText := true, laidKinds := [.data, .data, .data], laidTests := true, laidLooks := .later }
def PlanOnceCardSaid : Prop := Claim7.holds Tryz.pinned (.plain (OpenSpec.ofChange planOnceSpec)) planOnceCard

/-- THE SECOND FORM's CARD OF 'kinescopelaw18.PlanDoubles'. -/
def planDoublesUptoCard : Claim7 := { stood := { row := planDoublesUptoRow, standIns := [], harness := (true, "28a05033ce32557fddafa9237b717148263db4ed4fdb29b5c9f4c79991631c37"), looks := false }, kinds := [], alts := [], laidByText := true, laidKinds := [.data, .data, .data], laidTests := true, laidLooks := .later }
def PlanDoublesUptoCardSaid : Prop := Claim7.holds Tryz.pinned (.plain (OpenSpec.upto planDoublesSpec)) planDoublesUptoCard

/-- THE SECOND FORM's CARD OF 'kinescopelaw18.PlanTells'. -/
def planTellsUptoCard : Claim7 := { stood := { row := planTellsUptoRow, standIns := [], harness := (true, "28a05033ce32557fddafa9237b717148263db4ed4fdb29b5c9f4c79991631c37"), looks := false }, kinds := [], alts := [], laidByText := true, laidKinds := [.data, .data, .data], laidTests := true, laidLooks := .later }
def PlanTellsUptoCardSaid : Prop := Claim7.holds Tryz.pinned (.plain (OpenSpec.upto planTellsSpec)) planTellsUptoCard

/-- THE SECOND FORM's CARD OF 'kinescopelaw18.PlanSmall'. -/
def planSmallUptoCard : Claim7 := { stood := { row := planSmallUptoRow, standIns := [], harness := (true, "28a05033ce32557fddafa9237b717148263db4ed4fdb29b5c9f4c79991631c37"), looks := false }, kinds := [], alts := [], laidByText := true, laidKinds := [.data, .data, .data], laidTests := true, laidLooks := .later }
def PlanSmallUptoCardSaid : Prop := Claim7.holds Tryz.pinned (.plain (OpenSpec.upto planSmallSpec)) planSmallUptoCard

/-- THE SECOND FORM's CARD OF 'kinescopelaw18.PlanOnce'. -/
def planOnceUptoCard : Claim7 := { stood := { row := planOnceUptoRow, standIns := [], harness := (true, "28a05033ce32557fddafa9237b717148263db4ed4fdb29b5c9f4c79991631c37"), looks := false }, kinds := [], alts := [], laidByText := true, laidKinds := [.data, .data, .data], laidTests := true, laidLooks := .later }
def PlanOnceUptoCardSaid : Prop := Claim7.holds Tryz.pinned (.plain (OpenSpec.upto planOnceSpec)) planOnceUptoCard
end Rows
end Go.Proofs.YtjcobjgjjlahdaaGreatDoor
