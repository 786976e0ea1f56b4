/- Calls that see what is owned and leave it as it is; results that are new; own rows that are written over in place and cut. -/
import Derived.Test.YtfflpdekojlnmaaDoorLAbsV
import Derived.Test.YtfflpdekojlnmaaDoorLAbsW
import Derived.Sort.Grow
import Derived.Test.YtfflpdekojlnmaaDoorLAbsZ
import Derived.Test.YtfflpdekojlnmaaDoorLOnceC
import Derived.Test.YtfflpdekojlnmaaDoorLBehP
import Derived.Test.YtfflpdekojlnmaaDoorLWalk
import Derived.Test.YtfflpdekojlnmaaDoorLEnc
import Derived.Test.YtfflpdekojlnmaaDoorLValue
import Derived.Shelf.Sort.Plain
import Derived.Shelf.Slices.CompactI
import Derived.Shelf.Slices.In.SortNone
import Derived.Shelf.Spec.SlicesGrow
set_option linter.unusedSimpArgs false
set_option linter.unusedVariables false
namespace Go.Proofs.YtfflpdekojlnmaaDoor
open Go.RowKit

section
variable {D : Nat → Prop} {nu : Nat → Nat → Value} {o : List (Option AObj)} {w : World} {P : Program}

def FrzS (o : List (Option AObj)) (a r : AV) : Prop := ∀ (D : Nat → Prop) (nu : Nat → Nat → Value) (w : World) (x : Value), RO D nu o w → RA D nu o w a x → RA D nu [] w r x
def FrzL (o : List (Option AObj)) : List AV → List AV → Prop
 | [], [] => True
 | a :: l, b :: m => FrzS o a b ∧ FrzL o l m
 | _, _ => False
theorem FrzS.of {a r : AV} (n : Nat) {p : Prop} (hz : aFrz o n a = some (p, r)) (hp : p) : FrzS o a r := fun _ _ _ x hro hra => (frz_both hro n).1 a x p r hz hp hra
theorem FrzL.at' : ∀ {l m : List AV}, FrzL o l m → l.length = m.length ∧ ∀ (i : Nat) a b, l[i]? = some a → m[i]? = some b → FrzS o a b
 | [], [], _ => ⟨rfl, fun i a b h => by simp at h⟩
 | a :: l, b :: m, h => by
  obtain ⟨h1, h2⟩ := FrzL.at' h.2
  refine ⟨by simp [h1], fun i x y k1 k2 => ?_⟩
  cases i with
  | zero => simp at k1 k2; subst k1; subst k2; exact h.1
  | succ i => exact h2 i x y (by simpa using k1) (by simpa using k2)

def CallN (P : Program) (f : FuncId) (args : List AV) (r : AV) : Prop := (wfL 0 args = true ∧ r.wf 0 = true) ∧ callOk P f = true ∧ ∀ D nu w vargs, RO D nu [] w → RAs D nu [] w args vargs → Calls P f vargs w (fun e w' => ∃ v, e = .returned v ∧ Below w.heap.size w w' ∧ RA (fun b => w.heap.size ≤ b) nu [] w' r v)
def AFzN (o : List (Option AObj)) (r0 r : AV) : Prop := ∀ (D : Nat → Prop) (nu : Nat → Nat → Value) (w : World) (x : Value), RO D nu o w → RA D nu o w r0 x → RA (owned nu o) nu [] w r x

/-! ### own rows of plain values, written over in place -/
def rowsV {α : Type} (enc : α → Value) (l : List α) : List (List AV) := l.map (fun a => [.v (enc a)])
/-! ### own objects, picked and numbered anew -/
def SelT (f : Nat → Nat) (n : Nat) : List AV → List AV → Prop
 | [], [] => True
 | a :: l, c :: m => (c = .undef ∨ (a = c.ren f ∧ c.wf n = true)) ∧ SelT f n l m
 | _, _ => False
end
end Go.Proofs.YtfflpdekojlnmaaDoor

namespace Go.Proofs.YtfflpdekojlnmaaDoor
open Go.RowKit

def opsC (q : Qry) (i : Nat) : List (List AV) := ((q.conds.drop i).flatMap (fun c => [c.left, c.right]) ++ q.ret).map (fun o => [.agg (encO o)])

/-! ### a map whose keys are texts -/
def mrows (l : List (ByteArray × Int)) : List (List AV) := l.map (fun p => [.v (.string p.1), .v (.int .i64 p.2)])
end Go.Proofs.YtfflpdekojlnmaaDoor

namespace Go.Proofs.YtfflpdekojlnmaaDoor
open Go.RowKit

end Go.Proofs.YtfflpdekojlnmaaDoor

namespace Go.Proofs.YtfflpdekojlnmaaDoor
open Go.RowKit

end Go.Proofs.YtfflpdekojlnmaaDoor

namespace Go.Proofs.YtfflpdekojlnmaaDoor
open Go.RowKit

@[go_sem] theorem wf_mrows (n : Nat) (l : List (ByteArray × Int)) : wfR n (mrows l) = true := wfR_map _ (fun _ => rfl) l
def nmR : Option (List ByteArray) → AV
 | none => .tup [.v (.map none), .v (.bool false)]
 | some _ => .tup [.vec 1 0, .v (.bool true)]

end Go.Proofs.YtfflpdekojlnmaaDoor

namespace Go.Proofs.YtfflpdekojlnmaaDoor
open Go.RowKit

end Go.Proofs.YtfflpdekojlnmaaDoor

namespace Go.Proofs.YtfflpdekojlnmaaDoor
open Go.RowKit

section
variable {P : Program}
theorem CallE.to1 {f : FuncId} {args : List AV} {r r' : AV} {o' : List (Option AObj)} (h : CallE P f args [] r o') (n : Nat) {p : Prop} (hz : aFrz o' n r = some (p, r')) (hp : p) (hw : wfL 0 args = true) (hw' : r'.wf 0 = true) : Call1 P f args r' := by
 refine ⟨⟨hw, hw'⟩, h.1, fun D nu w vargs hro hra => (h.2 D nu w vargs hro hra).mono ?_⟩
 rintro e w' ⟨v, nu', o'', r'', rfl, hm, hro', hx, rfl, rfl⟩
 exact ⟨v, nu', [], r', rfl, ⟨hm.os, hm.tape, hm.output, hm.size, fun id len hh => by obtain ⟨ob, h1, _⟩ := hh; simp at h1, fun b hb hno => ⟨(hm.keep b hb (owned_nil _ _)).1, owned_nil _ _⟩⟩, (.nil _ _ _ hro'.up (hro'.gl.nil (fun _ _ h => h))), (frz_both hro' n).1 _ _ _ _ hz hp hx, rfl, rfl⟩
end

def encN (l : List Nat) : List (List AV) := l.map (fun k : Nat => [.v (.int .i64 (k : Int))])

end Go.Proofs.YtfflpdekojlnmaaDoor

namespace Go.Proofs.YtfflpdekojlnmaaDoor
open Go.RowKit

attribute [go_sem] Value.oneCell'
def mk1 (i : Nat) : AV := .v (.int .i64 ((8000024 + i : Nat) : Int))
def markE (i : Nat) : List AV := [mk1 i, .v (.string ⟨#[]⟩), .v (.slice none 0 0)]
def mksN (f : Nat → List AV) : Nat → List (List AV)
 | 0 => []
 | n + 1 => mksN f n ++ [f n]
@[go_sem] theorem mksN_len (f : Nat → List AV) : ∀ n, (mksN f n).length = n
 | 0 => rfl
 | n + 1 => by rw [mksN, List.length_append, mksN_len f n]; rfl
def marksOf (f : Nat → List AV) : List (List AV) := mksN f 12
mutual
def lentE : Ex → List AV
 | .mk k s l => [.v (.int .i64 k), .v (.string s), .slc 3 (lentEs l ++ marksOf markE) l.length]
def lentEs : List Ex → List (List AV)
 | [] => []
 | x :: xs => lentE x :: lentEs xs
end
theorem lentEs_eq : ∀ l : List Ex, lentEs l = l.map lentE
 | [] => rfl
 | x :: xs => by rw [lentEs, lentEs_eq xs, List.map_cons]
theorem wfR_app (n : Nat) (a b : List (List AV)) : wfR n (a ++ b) = (wfR n a && wfR n b) := by
 induction a with
 | nil => simp [wfR]
 | cons x a ih => simp [wfR, ih, Bool.and_assoc]
theorem wf_mksN (n : Nat) (f : Nat → List AV) (h : ∀ i, wfL n (f i) = true) : ∀ k, wfR n (mksN f k) = true
 | 0 => rfl
 | k + 1 => by simp [mksN, wfR_app, wf_mksN n f h k, wfR, h]
theorem wf_marks (n : Nat) (f : Nat → List AV) (h : ∀ i, wfL n (f i) = true) : wfR n (marksOf f) = true := wf_mksN n f h 12
@[go_sem] theorem marks_len (f : Nat → List AV) : (marksOf f).length = 12 := mksN_len f 12
theorem wf_markE (n : Nat) (i : Nat) : wfL n (markE i) = true := rfl
theorem wf_lentE1 (n : Nat) (x : Ex) : wfL n (lentE x) = true := by
 induction x using Ex.ind with
 | h k s l ih =>
  rw [lentE, lentEs_eq]
  simp only [wfL, AV.wf, Bool.and_true, Bool.true_and, wfR_app, wf_marks n _ (wf_markE n)]
  exact wfR_of (fun r hr => by obtain ⟨x, hx, rfl⟩ := List.mem_map.1 hr; exact ih x hx)
theorem wf_lentE (n : Nat) (l : List Ex) : wfR n (l.map lentE) = true := wfR_map _ (wf_lentE1 n) l
attribute [go_sem] wf_lentE1 wf_lentE wfR_app
@[go_sem] theorem wf_mksE (n k : Nat) : wfR n (mksN markE k) = true := wf_mksN n _ (wf_markE n) k
@[go_sem] theorem wf_marksE (n : Nat) : wfR n (marksOf markE) = true := wf_marks n _ (wf_markE n)

def Ex.lens (n : Nat) (x : Ex) : Prop := ∀ y, y ∈ exParts x → y.kids.length ≤ n

end Go.Proofs.YtfflpdekojlnmaaDoor

namespace Go.Proofs.YtfflpdekojlnmaaDoor
open Go.RowKit

def markP (i : Nat) : List AV := [.v (.string ⟨#[]⟩), .v (.string ⟨#[]⟩), .v (.bool false), .v (.string ⟨#[109]⟩), .v (.string ⟨#[]⟩), mk1 i, .v (.string ⟨#[]⟩), .v (.slice none 0 0)]
def markC (i : Nat) : List AV := [mk1 i, .v (.int .i64 0), .v (.string ⟨#[]⟩), .v (.string ⟨#[]⟩), .v (.int .i64 0), .v (.int .i64 0), .v (.string ⟨#[]⟩), .v (.int .i64 0), .v (.string ⟨#[]⟩), .v (.string ⟨#[]⟩), .v (.int .i64 0), .v (.int .i64 0), .v (.string ⟨#[]⟩)]
def markO (i : Nat) : List AV := [.v (.int .i64 0), .v (.string ⟨#[]⟩), .v (.string ⟨#[]⟩), .v (.int .i64 0), mk1 i, .v (.string ⟨#[]⟩)]
def lentP (p : Pat) : List AV := [.v (.string p.frm), .v (.string p.to), .v (.bool p.path), .v (.string p.label), .v (.string p.name), .v (.int .i64 p.expr.kind), .v (.string p.expr.label), .slc 3 (p.expr.kids.map lentE ++ marksOf markE) p.expr.kids.length]
theorem wf_lentP1 (n : Nat) (p : Pat) : wfL n (lentP p) = true := by simp only [lentP, wfL, AV.wf, wfR_app, wf_lentE, wf_marksE, Bool.and_true, Bool.and_self]
@[go_sem] theorem wf_lentP (n : Nat) (l : List Pat) : wfR n (l.map lentP) = true := wfR_map _ (wf_lentP1 n) l
@[go_sem] theorem wf_mksP (n k : Nat) : wfR n (mksN markP k) = true := wf_mksN n _ (fun _ => rfl) k
@[go_sem] theorem wf_marksP (n : Nat) : wfR n (marksOf markP) = true := wf_mksN n _ (fun _ => rfl) 12
@[go_sem] theorem wf_mksC (n k : Nat) : wfR n (mksN markC k) = true := wf_mksN n _ (fun _ => rfl) k
@[go_sem] theorem wf_marksC (n : Nat) : wfR n (marksOf markC) = true := wf_mksN n _ (fun _ => rfl) 12
@[go_sem] theorem wf_mksO (n k : Nat) : wfR n (mksN markO k) = true := wf_mksN n _ (fun _ => rfl) k
@[go_sem] theorem wf_marksO (n : Nat) : wfR n (marksOf markO) = true := wf_mksN n _ (fun _ => rfl) 12

def Qry.lens (n : Nat) (q : Qry) : Prop := q.pats.length ≤ n ∧ q.conds.length ≤ n ∧ q.ret.length ≤ n ∧ ∀ p, p ∈ q.pats → p.expr.lens n

end Go.Proofs.YtfflpdekojlnmaaDoor

namespace Go.Proofs.YtfflpdekojlnmaaDoor
open Go.RowKit

inductive Le : AV → AV → Prop
 | refl (a : AV) : Le a a
 | wit (p : (Nat → Prop) → World → Value → Prop) (a b : AV) : Le a b → Le (.wit p a) b
 | nil (z : Nat) : Le (.v (.slice none 0 0)) (.slc z [] 0)
 | agg (cs ds : List AV) : cs.length = ds.length → (∀ (i : Nat) c d, cs[i]? = some c → ds[i]? = some d → Le c d) → Le (.agg cs) (.agg ds)
 | slc (z : Nat) (rows rows' : List (List AV)) (len : Nat) : len ≤ rows'.length → rows'.length ≤ rows.length → (∀ (i : Nat) r r', rows[i]? = some r → rows'[i]? = some r' → r.length = r'.length) →
   (∀ (i j : Nat) r r' c c', rows[i]? = some r → rows'[i]? = some r' → r[j]? = some c → r'[j]? = some c' → Le c c') → Le (.slc z rows len) (.slc z rows' len)

section
variable {D : Nat → Prop} {nu : Nat → Nat → Value} {o : List (Option AObj)} {w : World} {P : Program}
theorem RA.le {a b : AV} (h : Le a b) : ∀ {x : Value}, RA D nu o w a x → RA D nu o w b x := by
 induction h with
 | refl a => exact fun h => h
 | wit p a b _ ih => intro x h; cases h with | wit _ _ _ S h0 h1 hc h2 h3 => exact ih h3
 | nil z => intro x h; obtain rfl := h.v_eq; exact .slcNil z
 | agg cs ds hl _ ih =>
  intro x h
  cases h with
  | agg _ xs h1 h2 h3 =>
   refine .agg ds xs (by omega) (fun i d y hd hy => ?_) h3
   have hi : i < cs.length := by have := (List.getElem?_eq_some_iff.1 hd).1; omega
   exact ih i cs[i] d (List.getElem?_eq_getElem hi) hd (h2 i _ y (List.getElem?_eq_getElem hi) hy)
 | slc z rows rows' len h1 h2 h3 _ ih =>
  intro x h
  have up : ∀ (i : Nat) r', rows'[i]? = some r' → ∃ r, rows[i]? = some r := fun i r' hr => ⟨_, List.getElem?_eq_getElem (by have := (List.getElem?_eq_some_iff.1 hr).1; omega)⟩
  have upj : ∀ (i j : Nat) r' c', rows'[i]? = some r' → r'[j]? = some c' → ∃ r c, rows[i]? = some r ∧ r[j]? = some c := fun i j r' c' hr hc => by
   obtain ⟨r, hr'⟩ := up i r' hr
   exact ⟨r, _, hr', List.getElem?_eq_getElem (by have := h3 i r r' hr' hr; have := (List.getElem?_eq_some_iff.1 hc).1; omega)⟩
  cases h with
  | slcNil =>
   have : rows' = [] := List.eq_nil_of_length_eq_zero (by simpa using h2)
   subst this; exact .slcNil z
  | slcOdd _ a =>
   have : rows' = [] := List.eq_nil_of_length_eq_zero (by simpa using h2)
   subst this; exact .slcOdd z a
  | slc _ _ _ b off cap f k1 k2 k3 k4 k5 k6 k7 k8 =>
   refine .slc z rows' len b off cap f h1 (by omega) k3 (fun hne => k4 (fun e => hne (by subst e; exact List.eq_nil_of_length_eq_zero (by simpa using h2)))) (fun i r' hr => ?_) (fun i j r' c' hr hc => ?_) (fun i j r' c' hr hc => ?_) (fun i j r' c' hr hc => ?_)
   ·obtain ⟨r, hr'⟩ := up i r' hr
    rw [← h3 i r r' hr' hr]; exact k5 i r hr'
   ·obtain ⟨r, c, q1, q2⟩ := upj i j r' c' hr hc
    exact k6 i j r c q1 q2
   ·obtain ⟨r, c, q1, q2⟩ := upj i j r' c' hr hc
    exact ih i j r r' c c' q1 hr q2 hc (k7 i j r c q1 q2)
   ·obtain ⟨r, c, q1, q2⟩ := upj i j r' c' hr hc
    exact k8 i j r c q1 q2
def LeL (cs ds : List AV) : Prop := cs.length = ds.length ∧ ∀ (i : Nat) c d, cs[i]? = some c → ds[i]? = some d → Le c d
theorem LeL.nil : LeL [] [] := ⟨rfl, fun i c d h => by simp at h⟩
theorem LeL.cons {c d : AV} {cs ds : List AV} (h : Le c d) (k : LeL cs ds) : LeL (c :: cs) (d :: ds) := ⟨by simp [k.1], fun i x y hx hy => by
 cases i with
 | zero => cases hx; cases hy; exact h
 | succ i => exact k.2 i x y hx hy⟩
theorem LeL.agg {cs ds : List AV} (h : LeL cs ds) : Le (.agg cs) (.agg ds) := .agg cs ds h.1 h.2
theorem Le.rows {α : Type} {z : Nat} {f g : α → List AV} {xs : List α} {more : List (List AV)} (h : ∀ x, x ∈ xs → LeL (f x) (g x)) : Le (.slc z (xs.map f ++ more) xs.length) (.slc z (xs.map g) xs.length) := by
 have key : ∀ (i : Nat) r r', (xs.map f ++ more)[i]? = some r → (xs.map g)[i]? = some r' → LeL r r' := fun i r r' h1 h2 => by
  have hi : i < xs.length := by simpa using (List.getElem?_eq_some_iff.1 h2).1
  rw [List.getElem?_append_left (by simpa using hi)] at h1
  rw [List.getElem?_map, List.getElem?_eq_getElem hi] at h1 h2
  cases h1; cases h2
  exact h _ (List.getElem_mem hi)
 exact .slc z _ _ _ (by simp) (by simp) (fun i r r' h1 h2 => (key i r r' h1 h2).1) (fun i j r r' c c' h1 h2 h3 h4 => (key i r r' h1 h2).2 j c c' h3 h4)
theorem RAs.le {cs ds : List AV} {xs : Array Value} (h : LeL cs ds) (k : RAs D nu o w cs xs) : RAs D nu o w ds xs := ⟨by rw [← h.1]; exact k.len, fun i d x hd hx => by
 have hi : i < cs.length := by have := (List.getElem?_eq_some_iff.1 hd).1; have := h.1; omega
 exact (k.at' i cs[i] x (List.getElem?_eq_getElem hi) hx).le (h.2 i _ d (List.getElem?_eq_getElem hi) hd)⟩
theorem Call1.le {f : FuncId} {args args' : List AV} {r : AV} (h : Call1 P f args r) (hw : wfL 0 args' = true) (hl : LeL args' args) : Call1 P f args' r := h.args hw (fun _ _ _ _ k => k.le hl)
end

end Go.Proofs.YtfflpdekojlnmaaDoor

namespace Go.Proofs.YtfflpdekojlnmaaDoor
open Go.RowKit

section
variable {P : Program}
end
end Go.Proofs.YtfflpdekojlnmaaDoor

namespace Go.Proofs.YtfflpdekojlnmaaDoor
open Go.RowKit

theorem ra_empty {D : Nat → Prop} {nu : Nat → Nat → Value} {o : List (Option AObj)} {w : World} {x : Value} (h : RA D nu o w (.slc 1 [] 0) x) : ∃ a c, x = .slice a 0 c := by
 cases h with
 | slcNil => exact ⟨_, _, rfl⟩
 | slcOdd _ a => exact ⟨_, _, rfl⟩
 | slc _ _ _ b off cap f => exact ⟨_, _, rfl⟩

end Go.Proofs.YtfflpdekojlnmaaDoor

namespace Go.Proofs.YtfflpdekojlnmaaDoor
open Go.RowKit

theorem wf_encNN (b : Nat) (l : List Nat) : wfR b (encN l) = true := wfR_map _ (fun _ => rfl) _
attribute [go_sem] wf_encNN

theorem idxOf_le : ∀ (l : List Nat) (n i : Nat), l[i]? = some n → l.idxOf n ≤ i
 | [], n, i, h => by simp at h
 | x :: l, n, 0, h => by simp at h; subst h; simp
 | x :: l, n, i + 1, h => by
  have := idxOf_le l n i (by simpa using h)
  rw [List.idxOf_cons]
  cases x == n <;> simp only [cond_true, cond_false] <;> omega

end Go.Proofs.YtfflpdekojlnmaaDoor

namespace Go.Proofs.YtfflpdekojlnmaaDoor
open Go.RowKit

inductive Fit9 : Ex → Prop
 | lab (s : ByteArray) : Fit9 (.mk 1 s [])
 | many (k : Int) (s : ByteArray) (l : List Ex) : (k = 2 ∨ k = 3) → l.length ≤ 900 → (∀ x ∈ l, Fit9 x) → Fit9 (.mk k s l)
 | one (k : Int) (s : ByteArray) (x : Ex) : (k = 4 ∨ k = 5 ∨ k = 6) → Fit9 x → Fit9 (.mk k s [x])

end Go.Proofs.YtfflpdekojlnmaaDoor

namespace Go.Proofs.YtfflpdekojlnmaaDoor
open Go.RowKit

theorem flat_mem_le {α β : Type} (f : α → List β) : ∀ (l : List α) (x : α), x ∈ l → (f x).length ≤ (l.flatMap f).length
 | y :: l, x, h => by
  rw [List.flatMap_cons, List.length_append]
  rcases List.mem_cons.1 h with rfl | h
  ·omega
  ·have := flat_mem_le f l x h; omega
theorem exParts_kids (k : Int) (s : ByteArray) (l : List Ex) : (exParts (.mk k s l)).length = 1 + (l.flatMap exParts).length := by
 rw [exParts, exsParts_eq, List.length_cons]; omega
theorem exParts_pos (x : Ex) : 1 ≤ (exParts x).length := by
 obtain ⟨k, s, l⟩ := x; rw [exParts_kids]; omega
theorem flat_len (l : List Ex) : l.length ≤ (l.flatMap exParts).length := by
 induction l with
 | nil => simp
 | cons x l ih => rw [List.flatMap_cons, List.length_append, List.length_cons]; have := exParts_pos x; omega

end Go.Proofs.YtfflpdekojlnmaaDoor

namespace Go.Proofs.YtfflpdekojlnmaaDoor
open Go.RowKit

theorem parts_sub (x : Ex) : ∀ y, y ∈ exParts x → (exParts y).length ≤ (exParts x).length := by
 induction x using Ex.ind with
 | h k s l ih =>
  intro y hy
  rw [exParts, exsParts_eq] at hy
  rcases List.mem_cons.1 hy with rfl | hy
  ·exact Nat.le_refl _
  ·obtain ⟨z, hz, hy⟩ := List.mem_flatMap.1 hy
   have h1 := ih z hz y hy
   have h2 := flat_mem_le exParts l z hz
   rw [exParts_kids]; omega
theorem kids_le (x : Ex) : x.kids.length ≤ (exParts x).length := by
 obtain ⟨k, s, l⟩ := x
 rw [exParts_kids]
 have := flat_len l
 simp only [Ex.kids]; omega

end Go.Proofs.YtfflpdekojlnmaaDoor
