/-
  DERIVED. GIVEN WITH THE SEED: THE CARDS: each row of YtmdkgajjekbanaaDoorRows.lean that lists a variable, with what it lists TIED to the program's text (the seventh form; the later family's looks); each row that meets fmt, with fmt's text TOLD by the authors' own Lean function (tested against real Go, not proved from fmt's source: count such statements apart). THE CARD IS WHAT COUNTS. Prove the row's statement (the work); the ties are given (YtmdkgajjekbanaaDoorTie.lean); close each card by the builder's one call (the guide's Derived/Test/ToyasCard.lean, 'card_holds'). Laid BY PROGRAM, IN A SANDBOX (cutbox-door.mjs). By AI agents, Wed Nov 11 2026. No macro, syntax, notation, axiom, sorry.
-/
import Derived.Test.YtmdkgajjekbanaaDoorRows
import GoSem.ClaimSeven
namespace Go.Proofs.YtmdkgajjekbanaaDoor
namespace Rows

/-- THE TIED CARD OF 'kinescopelaw08.NfaTells'. -/
def nfaTellsCard : Claim7 := { stood := { row := nfaTellsRow, standIns := [], harness := (true, "fb5175a81ec85640f5a451feb910dbf95013c865129885505fa657b700d9b568"), looks := false }, kinds := [], alts := [], laidByText := true, laidKinds := [.data], laidTests := true, laidLooks := .later }
def NfaTellsCardSaid : Prop := Claim7.holds Tryd.pinned (.plain (OpenSpec.ofChange nfaTellsSpec)) nfaTellsCard

/-- THE TIED CARD OF 'kinescopelaw08.NfaSteps'. -/
def nfaStepsCard : Claim7 := { stood := { row := nfaStepsRow, standIns := [], harness := (true, "fb5175a81ec85640f5a451feb910dbf95013c865129885505fa657b700d9b568"), looks := false }, kinds := [], alts := [], laidByText := true, laidKinds := [.data], laidTests := true, laidLooks := .later }
def NfaStepsCardSaid : Prop := Claim7.holds Tryd.pinned (.plain (OpenSpec.ofChange nfaStepsSpec)) nfaStepsCard

/-- THE TIED CARD OF 'kinescopelaw08.NfaEnds'. -/
def nfaEndsCard : Claim7 := { stood := { row := nfaEndsRow, standIns := [], harness := (true, "fb5175a81ec85640f5a451feb910dbf95013c865129885505fa657b700d9b568"), looks := false }, kinds := [], alts := [], laidByText := true, laidKinds := [.data], laidTests := true, laidLooks := .later }
def NfaEndsCardSaid : Prop := Claim7.holds Tryd.pinned (.plain (OpenSpec.ofChange nfaEndsSpec)) nfaEndsCard

/-- THE TIED CARD OF 'kinescopelaw08.NfaWalks'. -/
def nfaWalksCard : Claim7 := { stood := { row := nfaWalksRow, standIns := [], harness := (true, "fb5175a81ec85640f5a451feb910dbf95013c865129885505fa657b700d9b568"), looks := false }, kinds := [], alts := [], laidByText := true, laidKinds := [.data], laidTests := true, laidLooks := .later }
def NfaWalksCardSaid : Prop := Claim7.holds Tryd.pinned (.plain (OpenSpec.ofChange nfaWalksSpec)) nfaWalksCard

/-- THE TIED CARD OF 'kinescopelaw08.NfaWords'. -/
def nfaWordsCard : Claim7 := { stood := { row := nfaWordsRow, standIns := [], harness := (true, "fb5175a81ec85640f5a451feb910dbf95013c865129885505fa657b700d9b568"), looks := false }, kinds := [], alts := [], laidByText := true, laidKinds := [.data], laidTests := true, laidLooks := .later }
def NfaWordsCardSaid : Prop := Claim7.holds Tryd.pinned (.plain (OpenSpec.ofChange nfaWordsSpec)) nfaWordsCard

/-- THE SECOND FORM's CARD OF 'kinescopelaw08.NfaTells'. -/
def nfaTellsUptoCard : Claim7 := { stood := { row := nfaTellsUptoRow, standIns := [], harness := (true, "fb5175a81ec85640f5a451feb910dbf95013c865129885505fa657b700d9b568"), looks := false }, kinds := [], alts := [], laidByText := true, laidKinds := [.data], laidTests := true, laidLooks := .later }
def NfaTellsUptoCardSaid : Prop := Claim7.holds Tryd.pinned (.plain (OpenSpec.upto nfaTellsSpec)) nfaTellsUptoCard

/-- THE SECOND FORM's CARD OF 'kinescopelaw08.NfaSteps'. -/
def nfaStepsUptoCard : Claim7 := { stood := { row := nfaStepsUptoRow, standIns := [], harness := (true, "fb5175a81ec85640f5a451feb910dbf95013c865129885505fa657b700d9b568"), looks := false }, kinds := [], alts := [], laidByText := true, laidKinds := [.data], laidTests := true, laidLooks := .later }
def NfaStepsUptoCardSaid : Prop := Claim7.holds Tryd.pinned (.plain (OpenSpec.upto nfaStepsSpec)) nfaStepsUptoCard

/-- THE SECOND FORM's CARD OF 'kinescopelaw08.NfaEnds'. -/
def nfaEndsUptoCard : Claim7 := { stood := { row := nfaEndsUptoRow, standIns := [], harness := (true, "fb5175a81ec85640f5a451feb910dbf95013c865129885505fa657b700d9b568"), looks := false }, kinds := [], alts := [], laidByText := true, laidKinds := [.data], laidTests := true, laidLooks := .later }
def NfaEndsUptoCardSaid : Prop := Claim7.holds Tryd.pinned (.plain (OpenSpec.upto nfaEndsSpec)) nfaEndsUptoCard

/-- THE SECOND FORM's CARD OF 'kinescopelaw08.NfaWalks'. -/
def nfaWalksUptoCard : Claim7 := { stood := { row := nfaWalksUptoRow, standIns := [], harness := (true, "fb5175a81ec85640f5a451feb910dbf95013c865129885505fa657b700d9b568"), looks := false }, kinds := [], alts := [], laidByText := true, laidKinds := [.data], laidTests := true, laidLooks := .later }
def NfaWalksUptoCardSaid : Prop := Claim7.holds Tryd.pinned (.plain (OpenSpec.upto nfaWalksSpec)) nfaWalksUptoCard

/-- THE SECOND FORM's CARD OF 'kinescopelaw08.NfaWords'. -/
def nfaWordsUptoCard : Claim7 := { stood := { row := nfaWordsUptoRow, standIns := [], harness := (true, "fb5175a81ec85640f5a451feb910dbf95013c865129885505fa657b700d9b568"), looks := false }, kinds := [], alts := [], laidByText := true, laidKinds := [.data], laidTests := true, laidLooks := .later }
def NfaWordsUptoCardSaid : Prop := Claim7.holds Tryd.pinned (.plain (OpenSpec.upto nfaWordsSpec)) nfaWordsUptoCard
end Rows
end Go.Proofs.YtmdkgajjekbanaaDoor
