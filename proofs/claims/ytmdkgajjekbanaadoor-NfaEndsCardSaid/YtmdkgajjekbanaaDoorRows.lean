/-
  NARROWER THAN 'FOR EVERY INPUT', by the rows' own cells (each row's printed sentence says how): NfaTells: loops, laid · NfaSteps: loops, laid · NfaEnds: laid · NfaWalks: loops, laid · NfaWords: loops, laid.
  DERIVED. THE GIVEN ROWS OF THIS SEAT. 5 by the template 'for every input the law returns true; each argument reads behind the call as it read before'; 0 by the template 'total and deterministic' (their statements: YtmdkgajjekbanaaDoorTotals.lean).
  GIVEN WITH THE SEED: the statements are not yours to turn. If you find one false, say at which input.
  Laid BY PROGRAM, IN A SANDBOX (cutbox-rows.mjs): the forced cells as the released guide's own fill.sh prints them over the translation 294993fafd583617… (all of the seat's roots in one cut). By AI agents, Wed Nov 11 2026. No macro, syntax, notation, axiom, sorry.
-/
import Derived.Test.YtmdkgajjekbanaaDoorChecked
import GoSem.Claim
import GoSem.ClaimJoined
import GoSem.ClaimMapViews
import Derived.JoinedTies
import Derived.KernelRfl
namespace Go.Proofs.YtmdkgajjekbanaaDoor
/- THE CELL 'sum', in the pinned program and in every row, IS THE sha256 OF THE DUMP (.gsa) THAT YtmdkgajjekbanaaDoorProg.lean LOADS. Nothing in Lean hashes anything: it is a label: what it is worth is what the hold of that sum in a sandbox is worth. -/
noncomputable def Tryd.pinned : Pinned := { name := "ytmdkgajjekbanaadoor", sum := "294993fafd583617afc484f5afc494dcd903fa0508cc56c1cda11c558a1b1dc5", checked := Tryd.checked }
namespace Rows
def none {H : Type} : Left H := { results := [], args := [] }

/- WHAT THE LISTED PACKAGE-LEVEL VARIABLES READ AS WHEN THE CALL BEGINS. Each datum BY PROGRAM (the guide's laid-datum.mjs) off the statement by which the dump's own 'gosem.cut.vars' lays the variable. In a bare row this is a premise. The card (YtmdkgajjekbanaaDoorCards.lean) ties it to the program's text. -/
def laid_math_bits_deBruijn32tab {H : Type} : DataW H := .agg [.lit (.int .u8 0), .lit (.int .u8 1), .lit (.int .u8 28), .lit (.int .u8 2), .lit (.int .u8 29), .lit (.int .u8 14), .lit (.int .u8 24), .lit (.int .u8 3), .lit (.int .u8 30), .lit (.int .u8 22), .lit (.int .u8 20), .lit (.int .u8 15), .lit (.int .u8 25), .lit (.int .u8 17), .lit (.int .u8 4), .lit (.int .u8 8), .lit (.int .u8 31), .lit (.int .u8 27), .lit (.int .u8 13), .lit (.int .u8 23), .lit (.int .u8 21), .lit (.int .u8 19), .lit (.int .u8 16), .lit (.int .u8 7), .lit (.int .u8 26), .lit (.int .u8 12), .lit (.int .u8 18), .lit (.int .u8 6), .lit (.int .u8 11), .lit (.int .u8 5), .lit (.int .u8 10), .lit (.int .u8 9)]

/-- 'kinescopelaw08.NfaTells': WHATEVER THE INPUT: true; the input reads as it did. -/
def nfaTellsSpec : ChangeSpec := { name := "nfaTells", fn := fun _ => fun
  | [d1, d2] => { results := [.lit (.bool true)], args := [d1, d2] }
  | _ => none }
def nfaTellsRow : OpenClaim := { program := "ytmdkgajjekbanaadoor", sum := "294993fafd583617afc484f5afc494dcd903fa0508cc56c1cda11c558a1b1dc5", func := "kinescope/kinescopelaw08.NfaTells", spec := "nfaTells", unfollowed := true, recurses := true, named := ["math/bits.deBruijn32tab"], loops := true, apart := false, laid := [("math/bits.deBruijn32tab", laid_math_bits_deBruijn32tab)] }
def NfaTellsSaid : Prop := nfaTellsRow.holds Tryd.pinned (OpenSpec.ofChange nfaTellsSpec)

/-- ITS FALSE NEIGHBOUR: 'it returns false'. Refute it at one input. -/
def nfaTellsWrong : ChangeSpec := { name := "nfaTells", fn := fun _ => fun
  | [d1, d2] => { results := [.lit (.bool false)], args := [d1, d2] }
  | _ => none }
def NfaTellsWrongFalsely : Prop := nfaTellsRow.holds Tryd.pinned (OpenSpec.ofChange nfaTellsWrong)

/-- 'kinescopelaw08.NfaSteps': WHATEVER THE INPUT: true; the input reads as it did. -/
def nfaStepsSpec : ChangeSpec := { name := "nfaSteps", fn := fun _ => fun
  | [d1, d2, d3, d4] => { results := [.lit (.bool true)], args := [d1, d2, d3, d4] }
  | _ => none }
def nfaStepsRow : OpenClaim := { program := "ytmdkgajjekbanaadoor", sum := "294993fafd583617afc484f5afc494dcd903fa0508cc56c1cda11c558a1b1dc5", func := "kinescope/kinescopelaw08.NfaSteps", spec := "nfaSteps", unfollowed := true, recurses := true, named := ["math/bits.deBruijn32tab"], loops := true, apart := false, laid := [("math/bits.deBruijn32tab", laid_math_bits_deBruijn32tab)] }
def NfaStepsSaid : Prop := nfaStepsRow.holds Tryd.pinned (OpenSpec.ofChange nfaStepsSpec)

/-- ITS FALSE NEIGHBOUR: 'it returns false'. Refute it at one input. -/
def nfaStepsWrong : ChangeSpec := { name := "nfaSteps", fn := fun _ => fun
  | [d1, d2, d3, d4] => { results := [.lit (.bool false)], args := [d1, d2, d3, d4] }
  | _ => none }
def NfaStepsWrongFalsely : Prop := nfaStepsRow.holds Tryd.pinned (OpenSpec.ofChange nfaStepsWrong)

/-- 'kinescopelaw08.NfaEnds': WHATEVER THE INPUT: true; the input reads as it did. -/
def nfaEndsSpec : ChangeSpec := { name := "nfaEnds", fn := fun _ => fun
  | [] => { results := [.lit (.bool true)], args := [] }
  | _ => none }
def nfaEndsRow : OpenClaim := { program := "ytmdkgajjekbanaadoor", sum := "294993fafd583617afc484f5afc494dcd903fa0508cc56c1cda11c558a1b1dc5", func := "kinescope/kinescopelaw08.NfaEnds", spec := "nfaEnds", unfollowed := true, recurses := true, named := ["math/bits.deBruijn32tab"], apart := false, laid := [("math/bits.deBruijn32tab", laid_math_bits_deBruijn32tab)] }
def NfaEndsSaid : Prop := nfaEndsRow.holds Tryd.pinned (OpenSpec.ofChange nfaEndsSpec)

/-- ITS FALSE NEIGHBOUR: 'it returns false'. Refute it at one input. -/
def nfaEndsWrong : ChangeSpec := { name := "nfaEnds", fn := fun _ => fun
  | [] => { results := [.lit (.bool false)], args := [] }
  | _ => none }
def NfaEndsWrongFalsely : Prop := nfaEndsRow.holds Tryd.pinned (OpenSpec.ofChange nfaEndsWrong)

/-- 'kinescopelaw08.NfaWalks': WHATEVER THE INPUT: true; the input reads as it did. -/
def nfaWalksSpec : ChangeSpec := { name := "nfaWalks", fn := fun _ => fun
  | [d1, d2, d3] => { results := [.lit (.bool true)], args := [d1, d2, d3] }
  | _ => none }
def nfaWalksRow : OpenClaim := { program := "ytmdkgajjekbanaadoor", sum := "294993fafd583617afc484f5afc494dcd903fa0508cc56c1cda11c558a1b1dc5", func := "kinescope/kinescopelaw08.NfaWalks", spec := "nfaWalks", unfollowed := true, recurses := true, named := ["math/bits.deBruijn32tab"], loops := true, apart := false, laid := [("math/bits.deBruijn32tab", laid_math_bits_deBruijn32tab)] }
def NfaWalksSaid : Prop := nfaWalksRow.holds Tryd.pinned (OpenSpec.ofChange nfaWalksSpec)

/-- ITS FALSE NEIGHBOUR: 'it returns false'. Refute it at one input. -/
def nfaWalksWrong : ChangeSpec := { name := "nfaWalks", fn := fun _ => fun
  | [d1, d2, d3] => { results := [.lit (.bool false)], args := [d1, d2, d3] }
  | _ => none }
def NfaWalksWrongFalsely : Prop := nfaWalksRow.holds Tryd.pinned (OpenSpec.ofChange nfaWalksWrong)

/-- 'kinescopelaw08.NfaWords': WHATEVER THE INPUT: true; the input reads as it did. -/
def nfaWordsSpec : ChangeSpec := { name := "nfaWords", fn := fun _ => fun
  | [d1, d2] => { results := [.lit (.bool true)], args := [d1, d2] }
  | _ => none }
def nfaWordsRow : OpenClaim := { program := "ytmdkgajjekbanaadoor", sum := "294993fafd583617afc484f5afc494dcd903fa0508cc56c1cda11c558a1b1dc5", func := "kinescope/kinescopelaw08.NfaWords", spec := "nfaWords", unfollowed := true, recurses := true, named := ["math/bits.deBruijn32tab"], loops := true, apart := false, laid := [("math/bits.deBruijn32tab", laid_math_bits_deBruijn32tab)] }
def NfaWordsSaid : Prop := nfaWordsRow.holds Tryd.pinned (OpenSpec.ofChange nfaWordsSpec)

/-- ITS FALSE NEIGHBOUR: 'it returns false'. Refute it at one input. -/
def nfaWordsWrong : ChangeSpec := { name := "nfaWords", fn := fun _ => fun
  | [d1, d2] => { results := [.lit (.bool false)], args := [d1, d2] }
  | _ => none }
def NfaWordsWrongFalsely : Prop := nfaWordsRow.holds Tryd.pinned (OpenSpec.ofChange nfaWordsWrong)

/- THE SECOND FORM. 'bulk': how many values and letters a reading holds, each counted each time it is reached (what is shared counts as often as it is met; a slice's spare places count too). A statement '..UptoSaid' is the law's where the arguments, and the package variables that the reading takes, are together of bulk at most 1048576: NARROWER than '..Said'. Prove '..Said' where nothing that the law and all that it calls make is longer than what came in: it says more and counts as full. Else prove '..UptoSaid'. A law counts once. -/
mutual
def uptoBulk {H : Type} : DataW H → Nat
  | .lit (.string bytes) => bytes.length + 1
  | .lit _ => 1
  | .nil => 1
  | .ptr d => uptoBulk d + 1
  | .slice elems spare => uptoBulkAll elems + uptoBulkAll spare + 1
  | .agg parts => uptoBulkAll parts + 1
  | .iface _ d => uptoBulk d + 1
  | .map entries => uptoBulkEntries entries + 1
  | .held _ => 1
def uptoBulkAll {H : Type} : List (DataW H) → Nat
  | [] => 0
  | d :: r => uptoBulk d + uptoBulkAll r
def uptoBulkEntries {H : Type} : List (Lit × DataW H) → Nat
  | [] => 0
  | x :: r => uptoBulkEntry x + uptoBulkEntries r
def uptoBulkEntry {H : Type} : Lit × DataW H → Nat
  | (.string bytes, d) => bytes.length + uptoBulk d + 1
  | (_, d) => uptoBulk d + 1
 end
def uptoSmall : (H : Type) → List (DataW H) → Bool := fun _ ds => decide (uptoBulkAll ds ≤ 1048576)
def OpenSpec.upto (s : _root_.Go.ChangeSpec) : _root_.Go.OpenSpec := { _root_.Go.OpenSpec.ofChange s with cond := some uptoSmall }

/-- 'kinescopelaw08.NfaTells', WHERE WHAT IT READS IS OF BULK AT MOST 1048576: true; the input reads as it did. -/
def nfaTellsUptoRow : OpenClaim := { program := "ytmdkgajjekbanaadoor", sum := "294993fafd583617afc484f5afc494dcd903fa0508cc56c1cda11c558a1b1dc5", func := "kinescope/kinescopelaw08.NfaTells", spec := "nfaTells", unfollowed := true, recurses := true, named := ["math/bits.deBruijn32tab"], loops := true, apart := false, laid := [("math/bits.deBruijn32tab", laid_math_bits_deBruijn32tab)], narrowed := true }
def NfaTellsUptoSaid : Prop := nfaTellsUptoRow.holds Tryd.pinned (OpenSpec.upto nfaTellsSpec)

/-- 'kinescopelaw08.NfaSteps', WHERE WHAT IT READS IS OF BULK AT MOST 1048576: true; the input reads as it did. -/
def nfaStepsUptoRow : OpenClaim := { program := "ytmdkgajjekbanaadoor", sum := "294993fafd583617afc484f5afc494dcd903fa0508cc56c1cda11c558a1b1dc5", func := "kinescope/kinescopelaw08.NfaSteps", spec := "nfaSteps", unfollowed := true, recurses := true, named := ["math/bits.deBruijn32tab"], loops := true, apart := false, laid := [("math/bits.deBruijn32tab", laid_math_bits_deBruijn32tab)], narrowed := true }
def NfaStepsUptoSaid : Prop := nfaStepsUptoRow.holds Tryd.pinned (OpenSpec.upto nfaStepsSpec)

/-- 'kinescopelaw08.NfaEnds', WHERE WHAT IT READS IS OF BULK AT MOST 1048576: true; the input reads as it did. -/
def nfaEndsUptoRow : OpenClaim := { program := "ytmdkgajjekbanaadoor", sum := "294993fafd583617afc484f5afc494dcd903fa0508cc56c1cda11c558a1b1dc5", func := "kinescope/kinescopelaw08.NfaEnds", spec := "nfaEnds", unfollowed := true, recurses := true, named := ["math/bits.deBruijn32tab"], apart := false, laid := [("math/bits.deBruijn32tab", laid_math_bits_deBruijn32tab)], narrowed := true }
def NfaEndsUptoSaid : Prop := nfaEndsUptoRow.holds Tryd.pinned (OpenSpec.upto nfaEndsSpec)

/-- 'kinescopelaw08.NfaWalks', WHERE WHAT IT READS IS OF BULK AT MOST 1048576: true; the input reads as it did. -/
def nfaWalksUptoRow : OpenClaim := { program := "ytmdkgajjekbanaadoor", sum := "294993fafd583617afc484f5afc494dcd903fa0508cc56c1cda11c558a1b1dc5", func := "kinescope/kinescopelaw08.NfaWalks", spec := "nfaWalks", unfollowed := true, recurses := true, named := ["math/bits.deBruijn32tab"], loops := true, apart := false, laid := [("math/bits.deBruijn32tab", laid_math_bits_deBruijn32tab)], narrowed := true }
def NfaWalksUptoSaid : Prop := nfaWalksUptoRow.holds Tryd.pinned (OpenSpec.upto nfaWalksSpec)

/-- 'kinescopelaw08.NfaWords', WHERE WHAT IT READS IS OF BULK AT MOST 1048576: true; the input reads as it did. -/
def nfaWordsUptoRow : OpenClaim := { program := "ytmdkgajjekbanaadoor", sum := "294993fafd583617afc484f5afc494dcd903fa0508cc56c1cda11c558a1b1dc5", func := "kinescope/kinescopelaw08.NfaWords", spec := "nfaWords", unfollowed := true, recurses := true, named := ["math/bits.deBruijn32tab"], loops := true, apart := false, laid := [("math/bits.deBruijn32tab", laid_math_bits_deBruijn32tab)], narrowed := true }
def NfaWordsUptoSaid : Prop := nfaWordsUptoRow.holds Tryd.pinned (OpenSpec.upto nfaWordsSpec)

end Rows
end Go.Proofs.YtmdkgajjekbanaaDoor
