/- kinescopelaw14.exprSize, kinescopelaw14.size: how many parts a query has, as far as 401. -/
import Derived.Test.YtokoneddljheaaaProg
import Derived.Test.YtokoneddljheaaaXBase2
import Derived.Test.YtokoneddljheaaaXChk3
import Derived.Test.YtokoneddljheaaaXLe
namespace Go.Proofs.Ytokoneddljheaaa
open Go.RowKit

end Go.Proofs.Ytokoneddljheaaa

/- kinescopelaw14: operands, the example: the walks. -/
set_option linter.unusedSimpArgs false
set_option linter.unusedVariables false
namespace Go.Proofs.Ytokoneddljheaaa
open Go.RowKit

def e0 : ByteArray := ⟨#[]⟩
def vtxO (s : ByteArray) : Opd := ⟨1, s, e0, ⟨0, 0, e0⟩⟩
def prpO (s k : ByteArray) : Opd := ⟨2, s, k, ⟨0, 0, e0⟩⟩
def numO (n : Int) : Opd := ⟨3, e0, e0, ⟨1, n, e0⟩⟩
def txtO (s : ByteArray) : Opd := ⟨3, e0, e0, ⟨2, 0, s⟩⟩

def askQ (nm : ByteArray) (l r o : Opd) : Qry := ⟨[⟨⟨#[97]⟩, ⟨#[98]⟩, false, ⟨#[120]⟩, nm, .mk 0 e0 []⟩], [⟨3, l, r⟩], [o], 5, 1⟩
/-- as it comes: an expression without kids -/
def askA (nm : ByteArray) (l r o : Opd) : List AV := [.slc 8 [[.v (.string ⟨#[97]⟩), .v (.string ⟨#[98]⟩), .v (.bool false), .v (.string ⟨#[120]⟩), .v (.string nm), .v (.int .i64 0), .v (.string e0), .v (.slice none 0 0)]] 1, .slc 13 [encC ⟨3, l, r⟩] 1, .slc 6 [encO o] 1, .v (.int .i64 5), .v (.int .i64 1)]

theorem okS {s : ByteArray} (h : decide (s.size ≤ 100) = true) : okT s := by unfold okT; have := of_decide_eq_true h; omega

end Go.Proofs.Ytokoneddljheaaa
