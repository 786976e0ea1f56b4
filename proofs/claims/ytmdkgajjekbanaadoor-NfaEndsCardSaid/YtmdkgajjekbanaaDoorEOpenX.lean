/- Expressions, operands, conditions, patterns, queries told as data of the abstract walk; what that says in words of the older readings. -/
import Derived.Test.YtmdkgajjekbanaaDoorEAbsZ
import Derived.Test.YtmdkgajjekbanaaDoorEBase2
import Derived.ChangeArms
import Derived.Deep.Slices
import Derived.KernelRfl
import Derived.SizedLaws
import Derived.Test.YtmdkgajjekbanaaDoorProg
import Derived.Test.YtmdkgajjekbanaaDoorRows
import Derived.Test.YtmdkgajjekbanaaDoorEAbsN
import Derived.WalkKit
import Derived.ProofKit
import Derived.OpenShut
set_option linter.unusedSimpArgs false
set_option linter.unusedVariables false
namespace Go.Proofs.YtmdkgajjekbanaaDoor
open Go.RowKit

def encS (s : ByteArray) : List AV := [.v (.string s)]
def encI (n : Int) : List AV := [.v (.int .i64 n)]
def encO (x : Opd) : List AV := [.v (.int .i64 x.kind), .v (.string x.name), .v (.string x.key), .v (.int .i64 x.val.kind), .v (.int .i64 x.val.num), .v (.string x.val.text)]
def encV (x : Val) : List AV := [.v (.int .i64 x.kind), .v (.int .i64 x.num), .v (.string x.text)]
def encC (x : Cnd) : List AV := [.v (.int .i64 x.op), .v (.int .i64 x.left.kind), .v (.string x.left.name), .v (.string x.left.key), .v (.int .i64 x.left.val.kind), .v (.int .i64 x.left.val.num), .v (.string x.left.val.text),
 .v (.int .i64 x.right.kind), .v (.string x.right.name), .v (.string x.right.key), .v (.int .i64 x.right.val.kind), .v (.int .i64 x.right.val.num), .v (.string x.right.val.text)]
mutual
def encE : Ex → List AV
 | .mk k s l => [.v (.int .i64 k), .v (.string s), .slc 3 (encEs l) l.length]
def encEs : List Ex → List (List AV)
 | [] => []
 | x :: xs => encE x :: encEs xs
end
theorem encEs_eq : ∀ l : List Ex, encEs l = l.map encE
 | [] => rfl
 | x :: xs => by rw [encEs, encEs_eq xs, List.map_cons]
theorem encE_eq (x : Ex) : encE x = [.v (.int .i64 x.kind), .v (.string x.label), .slc 3 (x.kids.map encE) x.kids.length] := by
 obtain ⟨k, s, l⟩ := x; rw [encE, encEs_eq]; rfl
def encP (p : Pat) : List AV := [.v (.string p.frm), .v (.string p.to), .v (.bool p.path), .v (.string p.label), .v (.string p.name), .v (.int .i64 p.expr.kind), .v (.string p.expr.label), .slc 3 (p.expr.kids.map encE) p.expr.kids.length]
def encQ (q : Qry) : List AV := [.slc 8 (q.pats.map encP) q.pats.length, .slc 13 (q.conds.map encC) q.conds.length, .slc 6 (q.ret.map encO) q.ret.length, .v (.int .i64 q.range), .v (.int .i64 q.slide)]
def strsA (l : List ByteArray) : AV := .slc 1 (l.map encS) l.length
def intsA (l : List Int) : AV := .slc 1 (l.map encI) l.length

theorem wf_encS (n : Nat) (l : List ByteArray) : wfR n (l.map encS) = true := wfR_map _ (fun _ => rfl) l
theorem wf_encI (n : Nat) (l : List Int) : wfR n (l.map encI) = true := wfR_map _ (fun _ => rfl) l
theorem wf_encO (n : Nat) (l : List Opd) : wfR n (l.map encO) = true := wfR_map _ (fun _ => rfl) l
theorem wf_encC (n : Nat) (l : List Cnd) : wfR n (l.map encC) = true := wfR_map _ (fun _ => rfl) l
theorem wf_encE1 (n : Nat) (x : Ex) : wfL n (encE x) = true := by
 induction x using Ex.ind with
 | h k s l ih =>
  rw [encE, encEs_eq]
  simp only [wfL, AV.wf, Bool.and_true, Bool.true_and]
  exact wfR_of (fun r hr => by obtain ⟨x, hx, rfl⟩ := List.mem_map.1 hr; exact ih x hx)
theorem wf_encE (n : Nat) (l : List Ex) : wfR n (l.map encE) = true := wfR_map _ (wf_encE1 n) l
theorem wf_encP1 (n : Nat) (p : Pat) : wfL n (encP p) = true := by simp only [encP, wfL, AV.wf, wf_encE, Bool.and_true]
theorem wf_encP (n : Nat) (l : List Pat) : wfR n (l.map encP) = true := wfR_map _ (wf_encP1 n) l
theorem wf_encQ (n : Nat) (q : Qry) : wfL n (encQ q) = true := by simp only [encQ, wfL, AV.wf, wf_encP, wf_encC, wf_encO, Bool.and_true]
attribute [go_sem] strsA intsA encS encI encO encV encC encP encQ wf_encS wf_encI wf_encO wf_encC wf_encE1 wf_encE wf_encP1 wf_encP wf_encQ
@[go_sem] theorem getD_map {α β : Type} (f : α → β) (l : List α) (k : Nat) (d : β) (h : k < l.length) : (l.map f).getD k d = f l[k] := by
 simp [List.getD, h]

section
variable {D : Nat → Prop} {nu : Nat → Nat → Value} {o : List (Option AObj)} {w : World} {P : Program}

theorem cellsAt_of {b : Nat} : ∀ {cs : List Value} {off : Nat}, (∀ (j : Nat) v, cs[j]? = some v → w.cell? ⟨b, off + j, none⟩ = some v) → cellsAt w b off cs
 | [], _, _ => trivial
 | y :: cs, off, h => ⟨by simpa using h 0 y rfl, cellsAt_of (off := off + 1) (fun j v hj => by rw [show off + 1 + j = off + (j + 1) by omega]; exact h (j + 1) v (by simpa using hj))⟩

def RLs (D : Nat → Prop) (nu : Nat → Nat → Value) (o : List (Option AObj)) (w : World) (cs : List AV) (xs : List Value) : Prop := cs.length = xs.length ∧ ∀ (j : Nat) c x, cs[j]? = some c → xs[j]? = some x → RA D nu o w c x

theorem RA.rdSl {α : Type} {z : Nat} {enc : α → List AV} {rd : α → List Value → Prop} {xs : List α} {v : Value} (h : RA D nu o w (.slc z (xs.map enc) xs.length) v) (hrd : ∀ x, x ∈ xs → ∀ cs : List Value, RLs D nu o w (enc x) cs → rd x cs) : RdSl w z rd xs v := by
 generalize hn : xs.length = n at h
 generalize hr : xs.map enc = rows at h
 cases h with
 | slcNil =>
  exact .inl ⟨.inl rfl, List.length_eq_zero_iff.1 hn⟩
 | slcOdd _ a =>
  exact .inl ⟨.inr ⟨a, rfl⟩, List.length_eq_zero_iff.1 hn⟩
 | slc _ _ _ b off cap f h1 h2 h3 h4 h5 h6 h7 h8 =>
  subst hr
  simp only [List.length_map] at h2
  refine .inr ⟨b, off, cap, by rw [hn], h2, h3, fun i x hx => ?_⟩
  have hi : (xs.map enc)[i]? = some (enc x) := by rw [List.getElem?_map, hx]; rfl
  refine ⟨(List.range (enc x).length).map (f i), hrd x (List.mem_of_getElem? hx) _ ⟨by simp, fun j c y hc hy => ?_⟩, cellsAt_of (fun j y hy => ?_)⟩
  ·have hj := (List.getElem?_eq_some_iff.1 hc).1
   rw [List.getElem?_map, List.getElem?_range hj] at hy
   cases hy
   exact h7 i j _ c hi hc
  ·rw [List.getElem?_map] at hy
   have hj : j < (enc x).length := by
    rcases Nat.lt_or_ge j (enc x).length with q | q
    ·exact q
    ·rw [List.getElem?_eq_none (by simpa using q)] at hy; cases hy
   rw [List.getElem?_range hj] at hy
   cases hy
   exact h6 i j _ _ hi (List.getElem?_eq_getElem hj)

theorem rls_ex : ∀ (x : Ex) (cs : List Value), RLs D nu o w (encE x) cs → RdEx w x cs := by
 intro x
 induction x using Ex.ind with
 | h k s l ih =>
  intro cs h
  rw [encE, encEs_eq] at h
  obtain ⟨hl, hr⟩ := h
  match cs, hl with
  | [a, b, c], _ =>
   have h0 := (hr 0 _ a rfl rfl).v_eq
   have h1 := (hr 1 _ b rfl rfl).v_eq
   have h2 := hr 2 _ c rfl rfl
   rw [RdEx]
   exact ⟨c, by rw [h0, h1], rdExs_iff.2 (RA.rdSl h2 (fun y hy cs' hc => ih y hy cs' hc))⟩

theorem ra_agg {cs : List AV} {v : Value} (h : RA D nu o w (.agg cs) v) : ∃ xs : List Value, v = .agg xs.toArray ∧ RLs D nu o w cs xs := by
 cases h with
 | agg _ xs h1 h2 h3 => exact ⟨xs.toList, by simp, by simpa using h1, fun j c x q1 q2 => h2 j c x q1 (by simpa using q2)⟩

/-! ### the other way, where nothing is owned -/

/-! ### the older contracts, told so -/
theorem fin_ret {D : Nat → Prop} {nu : Nat → Nat → Value} {w : World} {v : Value} (hro : RO D nu [] w) {e : Ending} {w' : World} (h : Ret w v e w') : FinG D nu [] w (fun r' o' => r' = .v v ∧ o' = []) e w' := by
 obtain ⟨rfl, hb⟩ := h
 exact ⟨v, nu, [], .v v, rfl, mono_below hb, hro.below hb, .v v, rfl, rfl⟩
theorem Call1.of_ret {f : FuncId} {args : List AV} {v : Value} (hc : callOk P f = true) (ha : wfL 0 args = true) (h : ∀ D nu w vargs, RAs D nu [] w args vargs → Calls P f vargs w (Ret w v)) : Call1 P f args (.v v) :=
 ⟨⟨ha, rfl⟩, hc, fun D nu w vargs hro hra => (h D nu w vargs hra).mono (fun e w' hr => fin_ret hro hr)⟩
theorem Call1.args {f : FuncId} {args args' : List AV} {r : AV} (h : Call1 P f args r) (hw : wfL 0 args' = true) (hl : ∀ D nu w vargs, RAs D nu [] w args' vargs → RAs D nu [] w args vargs) : Call1 P f args' r :=
 ⟨⟨hw, h.1.2⟩, h.2.1, fun D nu w vargs hro hra => h.2.2 D nu w vargs hro (hl D nu w vargs hra)⟩
theorem ras_one {a : AV} {vargs : Array Value} (h : RAs D nu o w [a] vargs) : ∃ x, vargs = #[x] ∧ RA D nu o w a x := by
 obtain ⟨x, hx⟩ := List.length_eq_one_iff.1 (by simpa using h.len.symm : vargs.toList.length = 1)
 have e : vargs = #[x] := by apply Array.ext'; simpa using hx
 subst e
 exact ⟨x, rfl, h.at' 0 a x rfl rfl⟩
theorem ras_two {a b : AV} {vargs : Array Value} (h : RAs D nu o w [a, b] vargs) : ∃ x y, vargs = #[x, y] ∧ RA D nu o w a x ∧ RA D nu o w b y := by
 have hl : vargs.toList.length = 2 := by simpa using h.len.symm
 match hv : vargs.toList, hl with
 | [x, y], _ =>
  have e : vargs = #[x, y] := by apply Array.ext'; simpa using hv
  subst e
  exact ⟨x, y, rfl, h.at' 0 a x rfl rfl, h.at' 1 b y rfl rfl⟩

end
end Go.Proofs.YtmdkgajjekbanaaDoor

namespace Go.Proofs.YtmdkgajjekbanaaDoor
open Go.RowKit Go.ChangeShapes Go.Deep

def tStr (P : Program) (t : TypeId) : Option (List (TypeId × Nat × Nat)) := match P.underlying t with
 | some (.struct fs) => some (fs.toList.map fun f => (f.type, f.offset, P.cellsOf f.type))
 | _ => none

section
variable {H : Type} {enc : TypeId × Value → H} {P : Program} {w : World}

def Td (enc : TypeId × Value → H) (P : Program) (w : World) (n : Nat) (t : TypeId) (cs : List Value) : Prop := ∃ y, DataW.trod enc P w 0 (fun _ => true) true n t cs = some y ∧ ∀ k ∈ y.1.weights P t, k ≤ reachBytes

end

/-! ### the data of this program -/
section
variable {H : Type} {enc : TypeId × Value → H} {w : World}
instance : Inhabited Ex := ⟨.mk 0 ⟨#[]⟩ []⟩
instance : Inhabited Opd := ⟨⟨0, ⟨#[]⟩, ⟨#[]⟩, ⟨0, 0, ⟨#[]⟩⟩⟩⟩
instance : Inhabited Cnd := ⟨⟨0, default, default⟩⟩
instance : Inhabited Pat := ⟨⟨⟨#[]⟩, ⟨#[]⟩, false, ⟨#[]⟩, ⟨#[]⟩, default⟩⟩

end
end Go.Proofs.YtmdkgajjekbanaaDoor

namespace Go.Proofs.YtmdkgajjekbanaaDoor
open Go.ChangeShapes Go.WideShapes Go.ChangeAt Go.RowKit

theorem Call1.to_ret {P : Program} {f : FuncId} {args : List AV} {v : Value} (h : Call1 P f args (.v v)) {w : World} {vargs : Array Value} (hr : RAs (fun _ => True) (fun _ _ => Go.undef) [] w args vargs) (hG : GlobOk (fun _ => True) (fun _ _ => Go.undef) [] w := by exact fun g T cs hg => by cases hg) :
  Calls P f vargs w (Ret w v) := by
 refine (h.2.2 _ _ w vargs (RO.nil _ _ _ (fun _ _ => trivial) hG) hr).mono fun e w' hf => ?_
 obtain ⟨x, nu', o', r, rfl, hm, _, hx, rfl, rfl⟩ := hf
 have e1 := hx.v_eq
 subst e1
 exact ⟨rfl, hm.os, hm.tape, hm.output, hm.size, fun b hb => (hm.keep b hb (owned_nil _ _)).1⟩

section
variable {H : Type} {enc : TypeId × Value → H} {w : World}

end
end Go.Proofs.YtmdkgajjekbanaaDoor

namespace Go.Proofs.YtmdkgajjekbanaaDoor
open Go.ChangeShapes Go.WideShapes Go.ChangeAt Go.RowKit

section
variable {H : Type} {enc : TypeId × Value → H} {w : World}
end
end Go.Proofs.YtmdkgajjekbanaaDoor
