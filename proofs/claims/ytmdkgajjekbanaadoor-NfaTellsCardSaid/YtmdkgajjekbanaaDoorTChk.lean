/- Calls that see what is owned and leave it as it is; results that are new; own rows that are written over in place and cut. -/
import Derived.Test.YtmdkgajjekbanaaDoorTAbsV
import Derived.Test.YtmdkgajjekbanaaDoorTAbsW
import Derived.Sort.Grow
import Derived.Test.YtmdkgajjekbanaaDoorTAbsZ
import Derived.Test.YtmdkgajjekbanaaDoorTOnceC
import Derived.Test.YtmdkgajjekbanaaDoorTBehP
set_option linter.unusedSimpArgs false
set_option linter.unusedVariables false
namespace Go.Proofs.YtmdkgajjekbanaaDoor
open Go.RowKit

section
variable {D : Nat → Prop} {nu : Nat → Nat → Value} {o : List (Option AObj)} {w : World} {P : Program}

def FrzS (o : List (Option AObj)) (a r : AV) : Prop := ∀ (D : Nat → Prop) (nu : Nat → Nat → Value) (w : World) (x : Value), RO D nu o w → RA D nu o w a x → RA D nu [] w r x
def FrzL (o : List (Option AObj)) : List AV → List AV → Prop
  | [], [] => True
  | a :: l, b :: m => FrzS o a b ∧ FrzL o l m
  | _, _ => False
theorem FrzS.of {a r : AV} (n : Nat) {p : Prop} (hz : aFrz o n a = some (p, r)) (hp : p) : FrzS o a r := fun _ _ _ x hro hra => (frz_both hro n).1 a x p r hz hp hra
theorem FrzL.at' : ∀ {l m : List AV}, FrzL o l m → l.length = m.length ∧ ∀ (i : Nat) a b, l[i]? = some a → m[i]? = some b → FrzS o a b
  | [], [], _ => ⟨rfl, fun i a b h => by simp at h⟩
  | a :: l, b :: m, h => by
    obtain ⟨h1, h2⟩ := FrzL.at' h.2
    refine ⟨by simp [h1], fun i x y k1 k2 => ?_⟩
    cases i with
    | zero => simp at k1 k2; subst k1; subst k2; exact h.1
    | succ i => exact h2 i x y (by simpa using k1) (by simpa using k2)

def CallN (P : Program) (f : FuncId) (args : List AV) (r : AV) : Prop := (wfL 0 args = true ∧ r.wf 0 = true) ∧ callOk P f = true ∧ ∀ D nu w vargs, RO D nu [] w → RAs D nu [] w args vargs → Calls P f vargs w (fun e w' => ∃ v, e = .returned v ∧ Below w.heap.size w w' ∧ RA (fun b => w.heap.size ≤ b) nu [] w' r v)
theorem CallN.to1 {f : FuncId} {args : List AV} {r : AV} (h : CallN P f args r) : Call1 P f args r := by
  refine ⟨h.1, h.2.1, fun D nu w vargs hro hra => (h.2.2 D nu w vargs hro hra).mono ?_⟩
  rintro e w' ⟨v, rfl, hb, hx⟩
  exact ⟨v, nu, [], r, rfl, mono_below hb, hro.below hb, hx.wider (fun b hb => hro.up b hb), rfl, rfl⟩
def AFzN (o : List (Option AObj)) (r0 r : AV) : Prop := ∀ (D : Nat → Prop) (nu : Nat → Nat → Value) (w : World) (x : Value), RO D nu o w → RA D nu o w r0 x → RA (owned nu o) nu [] w r x
theorem AFzN.vec {id len : Nat} {ob : AObj} (ho : o[id]? = some (some ob)) (hv : ob.isV = true) (hl : ob.rows.length = len) (hp : ∀ row, row ∈ ob.rows → ∀ c, c ∈ row → ∃ x, c = .v x) : AFzN o (.vec id len) (.slc ob.z ob.rows len) := fun D nu w x hro hra => by
  have hx : x = nu id len := by
    cases hra with
    | vec => rfl
  subst hx
  subst hl
  have hown : ∀ b, blkOf (nu id ob.rows.length) = some b → owned nu o b := fun b hb => ⟨id, ob, ho, by rw [AObj.hl, hv, if_pos rfl]; exact blkM_of hb⟩
  have h := vec_slc hro ho hv
  generalize hq : nu id ob.rows.length = q at h hown ⊢
  generalize ob.rows.length = n at h ⊢
  generalize ob.rows = rows at h hp ⊢
  cases h with
  | slcNil => exact .slcNil _
  | slcOdd _ a => exact .slcOdd _ a
  | slc _ _ _ b off cap f k1 k2 k3 k4 k5 k6 k7 k8 =>
    refine .slc _ _ _ b off cap f k1 k2 k3 (fun hne => ⟨(k4 hne).1, owned_nil _ _, hown b rfl⟩) k5 k6 (fun i j row c q1 q2 => ?_) k8
    obtain ⟨y, rfl⟩ := hp row (List.mem_of_getElem? q1) c (List.mem_of_getElem? q2)
    rw [(k7 i j row _ q1 q2).v_eq]; exact .v y
theorem AFzN.nil (z : Nat) : AFzN o (.v (.slice none 0 0)) (.slc z [] 0) := fun D nu w y hro hra => by rw [hra.v_eq]; exact .slcNil z
theorem plain_map {α : Type} (f : α → List AV) (h : ∀ x, ∀ c ∈ f x, ∃ y, c = .v y) (l : List α) : ∀ row, row ∈ l.map f → ∀ c, c ∈ row → ∃ y, c = .v y := fun row hr => by
  obtain ⟨x, _, rfl⟩ := List.mem_map.1 hr; exact h x
theorem CallN.enter {f : FuncId} {fn : Func} {c : Code} {args : List AV} {r : AV} (hf : P.funcs[f]? = some fn) (hb : fn.body = some c) (hc : callOk P f = true) (hok : okCode c = true) (hmx : P.follows .mixedOrders = true)
    (ha : wfL 0 args = true) (hr : r.wf 0 = true) (h : AWp P 0 c ⟨args ++ List.replicate (fn.ntmps - args.length) .undef, [], .no⟩ (AEnd P fn.results.toList (fun r0 o => AFzN o r0 r))) : CallN P f args r := by
  obtain ⟨_, h2⟩ := CallG.enter (o := []) hf hb hc hok hmx h
  refine ⟨⟨ha, hr⟩, hc, fun D nu w vargs hro hra => (h2 D nu w vargs hro hra).mono ?_⟩
  rintro e w' ⟨v, nu', o', r0, rfl, hm, hro', hra', hz⟩
  refine ⟨v, rfl, ⟨hm.os, hm.tape, hm.output, hm.size, fun b hb => (hm.keep b hb (owned_nil _ _)).1⟩, (hz _ _ _ _ hro' hra').tr (n := 0) (fun b hf => ⟨hf.1, owned_nil _ _, ?_⟩) (fun id len hlt => by omega) hr⟩
  rcases Nat.lt_or_ge b w.heap.size with q | q
  · exact absurd hf.2.2 (hm.keep b q (owned_nil _ _)).2
  · exact q

/-! ### own rows of plain values, written over in place -/
def rowsV {α : Type} (enc : α → Value) (l : List α) : List (List AV) := l.map (fun a => [.v (enc a)])
/-! ### own objects, picked and numbered anew -/
def SelT (f : Nat → Nat) (n : Nat) : List AV → List AV → Prop
  | [], [] => True
  | a :: l, c :: m => (c = .undef ∨ (a = c.ren f ∧ c.wf n = true)) ∧ SelT f n l m
  | _, _ => False
end
end Go.Proofs.YtmdkgajjekbanaaDoor

namespace Go.Proofs.YtmdkgajjekbanaaDoor
open Go.RowKit

def opsC (q : Qry) (i : Nat) : List (List AV) := ((q.conds.drop i).flatMap (fun c => [c.left, c.right]) ++ q.ret).map (fun o => [.agg (encO o)])

/-! ### a map whose keys are texts -/
def mrows (l : List (ByteArray × Int)) : List (List AV) := l.map (fun p => [.v (.string p.1), .v (.int .i64 p.2)])
end Go.Proofs.YtmdkgajjekbanaaDoor
