/- check: all operands of a query, one behind the other (an iterator). -/
import Derived.Test.YtmdkgajjekbanaaDoorKAbsZ
import Derived.Test.YtmdkgajjekbanaaDoorKOnceC
import Derived.Test.YtmdkgajjekbanaaDoorKOrdP
import Derived.Test.YtmdkgajjekbanaaDoorKTreeA
import Derived.Test.YtmdkgajjekbanaaDoorKEnc
import Derived.Test.YtmdkgajjekbanaaDoorKValue
import Derived.Test.YtmdkgajjekbanaaDoorKAbsX
set_option linter.unusedSimpArgs false
set_option linter.unusedVariables false
namespace Go.Proofs.YtmdkgajjekbanaaDoor
open Go.RowKit

/-- what is still to come behind i conditions, behind j that are told -/
def opsC (q : Qry) (i : Nat) : List (List AV) := ((q.conds.drop i).flatMap (fun c => [c.left, c.right]) ++ q.ret).map (fun o => [.agg (encO o)])
def opsR (q : Qry) (i : Nat) : List (List AV) := (q.ret.drop i).map (fun o => [.agg (encO o)])

/-! ### a map whose keys are texts -/
def mrows (l : List (ByteArray × Int)) : List (List AV) := l.map (fun p => [.v (.string p.1), .v (.int .i64 p.2)])
end Go.Proofs.YtmdkgajjekbanaaDoor

/- The document's names (ref02): the walks. -/
set_option linter.unusedSimpArgs false
set_option linter.unusedVariables false
namespace Go.Proofs.YtmdkgajjekbanaaDoor
open Go.RowKit

end Go.Proofs.YtmdkgajjekbanaaDoor

/- The document's values (ref05): the walk of Right. Printed by gen_ref05.py. -/
set_option linter.unusedSimpArgs false
set_option linter.unusedVariables false
namespace Go.Proofs.YtmdkgajjekbanaaDoor
open Go.RowKit

end Go.Proofs.YtmdkgajjekbanaaDoor

/- check.names: which names stand for vertices, which for edges: the walk. -/
set_option linter.unusedSimpArgs false
set_option linter.unusedVariables false
namespace Go.Proofs.YtmdkgajjekbanaaDoor
open Go.RowKit

@[go_sem] theorem wf_mrows (n : Nat) (l : List (ByteArray × Int)) : wfR n (mrows l) = true := wfR_map _ (fun _ => rfl) l
/-- what names tells -/
def nmR : Option (List ByteArray) → AV
  | none => .tup [.v (.map none), .v (.bool false)]
  | some _ => .tup [.vec 1 0, .v (.bool true)]

end Go.Proofs.YtmdkgajjekbanaaDoor

/- check.Query: why a query may not be asked: the walk. -/
set_option linter.unusedSimpArgs false
set_option linter.unusedVariables false
namespace Go.Proofs.YtmdkgajjekbanaaDoor
open Go.RowKit

end Go.Proofs.YtmdkgajjekbanaaDoor

/- order: which patterns are one, the normal places: the walks; slices.Collect. -/
set_option linter.unusedSimpArgs false
set_option linter.unusedVariables false
namespace Go.Proofs.YtmdkgajjekbanaaDoor
open Go.RowKit

section
variable {P : Program}
/-- a call that hands own rows back, told as one whose result stays -/
theorem CallE.to1 {f : FuncId} {args : List AV} {r r' : AV} {o' : List (Option AObj)} (h : CallE P f args [] r o') (n : Nat) {p : Prop} (hz : aFrz o' n r = some (p, r')) (hp : p) (hw : wfL 0 args = true) (hw' : r'.wf 0 = true) : Call1 P f args r' := by
  refine ⟨⟨hw, hw'⟩, h.1, fun D nu w vargs hro hra => (h.2 D nu w vargs hro hra).mono ?_⟩
  rintro e w' ⟨v, nu', o'', r'', rfl, hm, hro', hx, rfl, rfl⟩
  exact ⟨v, nu', [], r', rfl, ⟨hm.os, hm.tape, hm.output, hm.size, fun id len hh => by obtain ⟨ob, h1, _⟩ := hh; simp at h1, fun b hb hno => ⟨(hm.keep b hb (owned_nil _ _)).1, owned_nil _ _⟩⟩, (.nil _ _ _ hro'.up (hro'.gl.nil (fun _ _ h => h))), (frz_both hro' n).1 _ _ _ _ hz hp hx, rfl, rfl⟩
end

/-- numbers, one behind the other -/
def encN (l : List Nat) : List (List AV) := l.map (fun k : Nat => [.v (.int .i64 (k : Int))])

end Go.Proofs.YtmdkgajjekbanaaDoor

/- The statements' kit: what is lent, expressions: the walks. -/
set_option linter.unusedSimpArgs false
set_option linter.unusedVariables false
namespace Go.Proofs.YtmdkgajjekbanaaDoor
open Go.RowKit

attribute [go_sem] Value.oneCell'
/-- a mark's number -/
def mk1 (i : Nat) : AV := .v (.int .i64 ((8000024 + i : Nat) : Int))
def markE (i : Nat) : List AV := [mk1 i, .v (.string ⟨#[]⟩), .v (.slice none 0 0)]
/-- the first n marks -/
def mksN (f : Nat → List AV) : Nat → List (List AV)
  | 0 => []
  | n + 1 => mksN f n ++ [f n]
@[go_sem] theorem mksN_len (f : Nat → List AV) : ∀ n, (mksN f n).length = n
  | 0 => rfl
  | n + 1 => by rw [mksN, List.length_append, mksN_len f n]; rfl
def marksOf (f : Nat → List AV) : List (List AV) := mksN f 12
mutual
def lentE : Ex → List AV
  | .mk k s l => [.v (.int .i64 k), .v (.string s), .slc 3 (lentEs l ++ marksOf markE) l.length]
def lentEs : List Ex → List (List AV)
  | [] => []
  | x :: xs => lentE x :: lentEs xs
end
theorem lentEs_eq : ∀ l : List Ex, lentEs l = l.map lentE
  | [] => rfl
  | x :: xs => by rw [lentEs, lentEs_eq xs, List.map_cons]
theorem wfR_app (n : Nat) (a b : List (List AV)) : wfR n (a ++ b) = (wfR n a && wfR n b) := by
  induction a with
  | nil => simp [wfR]
  | cons x a ih => simp [wfR, ih, Bool.and_assoc]
theorem wf_mksN (n : Nat) (f : Nat → List AV) (h : ∀ i, wfL n (f i) = true) : ∀ k, wfR n (mksN f k) = true
  | 0 => rfl
  | k + 1 => by simp [mksN, wfR_app, wf_mksN n f h k, wfR, h]
theorem wf_marks (n : Nat) (f : Nat → List AV) (h : ∀ i, wfL n (f i) = true) : wfR n (marksOf f) = true := wf_mksN n f h 12
@[go_sem] theorem marks_len (f : Nat → List AV) : (marksOf f).length = 12 := mksN_len f 12
theorem wf_markE (n : Nat) (i : Nat) : wfL n (markE i) = true := rfl
theorem wf_lentE1 (n : Nat) (x : Ex) : wfL n (lentE x) = true := by
  induction x using Ex.ind with
  | h k s l ih =>
    rw [lentE, lentEs_eq]
    simp only [wfL, AV.wf, Bool.and_true, Bool.true_and, wfR_app, wf_marks n _ (wf_markE n)]
    exact wfR_of (fun r hr => by obtain ⟨x, hx, rfl⟩ := List.mem_map.1 hr; exact ih x hx)
theorem wf_lentE (n : Nat) (l : List Ex) : wfR n (l.map lentE) = true := wfR_map _ (wf_lentE1 n) l
attribute [go_sem] wf_lentE1 wf_lentE wfR_app
@[go_sem] theorem wf_mksE (n k : Nat) : wfR n (mksN markE k) = true := wf_mksN n _ (wf_markE n) k
@[go_sem] theorem wf_marksE (n : Nat) : wfR n (marksOf markE) = true := wf_marks n _ (wf_markE n)

/-- how long the lists within are -/
def Ex.lens (n : Nat) (x : Ex) : Prop := ∀ y, y ∈ exParts x → y.kids.length ≤ n
end Go.Proofs.YtmdkgajjekbanaaDoor

/- The statements' kit: what is lent, a query: the walks. Printed by gen_lent.py. -/
set_option linter.unusedSimpArgs false
set_option linter.unusedVariables false
namespace Go.Proofs.YtmdkgajjekbanaaDoor
open Go.RowKit

def markP (i : Nat) : List AV := [.v (.string ⟨#[]⟩), .v (.string ⟨#[]⟩), .v (.bool false), .v (.string ⟨#[109]⟩), .v (.string ⟨#[]⟩), mk1 i, .v (.string ⟨#[]⟩), .v (.slice none 0 0)]
def markC (i : Nat) : List AV := [mk1 i, .v (.int .i64 0), .v (.string ⟨#[]⟩), .v (.string ⟨#[]⟩), .v (.int .i64 0), .v (.int .i64 0), .v (.string ⟨#[]⟩), .v (.int .i64 0), .v (.string ⟨#[]⟩), .v (.string ⟨#[]⟩), .v (.int .i64 0), .v (.int .i64 0), .v (.string ⟨#[]⟩)]
def markO (i : Nat) : List AV := [.v (.int .i64 0), .v (.string ⟨#[]⟩), .v (.string ⟨#[]⟩), .v (.int .i64 0), mk1 i, .v (.string ⟨#[]⟩)]
def lentP (p : Pat) : List AV := [.v (.string p.frm), .v (.string p.to), .v (.bool p.path), .v (.string p.label), .v (.string p.name), .v (.int .i64 p.expr.kind), .v (.string p.expr.label), .slc 3 (p.expr.kids.map lentE ++ marksOf markE) p.expr.kids.length]
def lentQ (q : Qry) : List AV := [.slc 8 (q.pats.map lentP ++ marksOf markP) q.pats.length, .slc 13 (q.conds.map encC ++ marksOf markC) q.conds.length, .slc 6 (q.ret.map encO ++ marksOf markO) q.ret.length, .v (.int .i64 q.range), .v (.int .i64 q.slide)]
theorem wf_lentP1 (n : Nat) (p : Pat) : wfL n (lentP p) = true := by simp only [lentP, wfL, AV.wf, wfR_app, wf_lentE, wf_marksE, Bool.and_true, Bool.and_self]
@[go_sem] theorem wf_lentP (n : Nat) (l : List Pat) : wfR n (l.map lentP) = true := wfR_map _ (wf_lentP1 n) l
@[go_sem] theorem wf_mksP (n k : Nat) : wfR n (mksN markP k) = true := wf_mksN n _ (fun _ => rfl) k
@[go_sem] theorem wf_marksP (n : Nat) : wfR n (marksOf markP) = true := wf_mksN n _ (fun _ => rfl) 12
@[go_sem] theorem wf_mksC (n k : Nat) : wfR n (mksN markC k) = true := wf_mksN n _ (fun _ => rfl) k
@[go_sem] theorem wf_marksC (n : Nat) : wfR n (marksOf markC) = true := wf_mksN n _ (fun _ => rfl) 12
@[go_sem] theorem wf_mksO (n k : Nat) : wfR n (mksN markO k) = true := wf_mksN n _ (fun _ => rfl) k
@[go_sem] theorem wf_marksO (n : Nat) : wfR n (marksOf markO) = true := wf_mksN n _ (fun _ => rfl) 12

/-- how long its lists are -/
def Qry.lens (n : Nat) (q : Qry) : Prop := q.pats.length ≤ n ∧ q.conds.length ≤ n ∧ q.ret.length ≤ n ∧ ∀ p, p ∈ q.pats → p.expr.lens n

end Go.Proofs.YtmdkgajjekbanaaDoor
