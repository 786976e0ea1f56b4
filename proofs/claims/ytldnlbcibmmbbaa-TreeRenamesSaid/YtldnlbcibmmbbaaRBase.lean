/- Data of the program in plain Lean, and what it means that a value reads as such data in a world. No program is named here. -/
import Derived.Attr
import Derived.WalkKit
import Derived.WalkSpells
import Derived.WalkLawsBesides
import Derived.Lib.Hide
namespace Go.Proofs.Ytldnlbcibmmbbaa
attribute [go_sem_proc] Nat.reduceAdd Nat.reduceSub Nat.reduceMul Nat.reduceLeDiff Nat.reduceEqDiff Nat.reduceLT Int.reduceToNat reduceCtorEq Int.reduceLE Int.reduceLT Int.reduceNeg Int.reduceEq Int.reduceBEq Int.reduceBNe
attribute [go_sem_proc ↓] reduceIte
open Go.RowKit

inductive Ex where
 | mk (kind : Int) (label : ByteArray) (kids : List Ex)

def Ex.kind : Ex → Int | .mk k _ _ => k
def Ex.label : Ex → ByteArray | .mk _ s _ => s
def Ex.kids : Ex → List Ex | .mk _ _ l => l

theorem Ex.ind {P : Ex → Prop} (h : ∀ k s kids, (∀ x, x ∈ kids → P x) → P (.mk k s kids)) : ∀ x, P x :=
 @Ex.rec P (fun l => ∀ x, x ∈ l → P x) (fun k s kids ih => h k s kids ih) (fun x hx => by cases hx) (fun hd tl h1 h2 x hx => by
  cases hx with
  | head => exact h1
  | tail _ hm => exact h2 x hm)

def Ret (w : World) (v : Value) (e : Ending) (w' : World) : Prop := e = .returned v ∧ Below w.heap.size w w'

theorem lt_of_cell {w : World} {b o : Nat} {v : Value} (h : w.cell? ⟨b, o, none⟩ = some v) : b < w.heap.size := by
 rcases Nat.lt_or_ge b w.heap.size with h' | h'
 ·exact h'
 ·simp [World.cell?, Array.getElem?_eq_none h'] at h

theorem cell_below {w w' : World} (hb : Below w.heap.size w w') {b o : Nat} {v : Value} (h : w.cell? ⟨b, o, none⟩ = some v) : w'.cell? ⟨b, o, none⟩ = some v :=
 (hb.cell (p := ⟨b, o, none⟩) (lt_of_cell h)).trans h

theorem below_step {w w1 w2 : World} (h : Below w.heap.size w w1) (k : Below w1.heap.size w1 w2) : Below w.heap.size w w2 := h.trans (k.mono h.size)

theorem Below.undrew {w w' : World} (h : Below w.drew.heap.size w.drew w') : Below w.heap.size w w' := ⟨h.os, h.tape, h.output, h.size, h.block⟩
theorem below_drew (w : World) : Below w.heap.size w w.drew := (Below.refl _ _).drew

theorem ret_b {w w' : World} {v : Value} {b b' : Bool} (hv : v = .bool b) (h : b = b') (hb : Below w.heap.size w w') : Ret w (.bool b') (.returned v) w' := ⟨by rw [hv, h], hb⟩

theorem ret_i {w w' : World} {v : Value} {b b' : Int} (hv : v = .int .i64 b) (h : b = b') (hb : Below w.heap.size w w') : Ret w (.int .i64 b') (.returned v) w' := ⟨by rw [hv, h], hb⟩
def RetS (w : World) (v : Value) (e : Ending) (w' : World) : Prop := e = .returned v ∧ w = w'
theorem rets_b {w : World} {v : Value} {b b' : Bool} (hv : v = .bool b) (h : b = b') : RetS w (.bool b') (.returned v) w := ⟨by rw [hv, h], rfl⟩
theorem rets_i {w : World} {v : Value} {b b' : Int} (hv : v = .int .i64 b) (h : b = b') : RetS w (.int .i64 b') (.returned v) w := ⟨by rw [hv, h], rfl⟩

theorem below_alloc {w w1 : World} (h : Below w.heap.size w w1) (o : Obj) : Below w.heap.size w (w1.alloc o) := h.alloc h.size o
theorem below_drew' {w w1 : World} (h : Below w.heap.size w w1) : Below w.heap.size w w1.drew := h.drew

theorem bcell {W w1 : World} (hb : Below W.heap.size W w1) : (∀ b o, b < W.heap.size → w1.cell? ⟨b, o, none⟩ = W.cell? ⟨b, o, none⟩) ∧ (∀ b o, b < W.heap.size → w1.frozen? ⟨b, o, none⟩ = W.frozen? ⟨b, o, none⟩) :=
 ⟨fun b o h => hb.cell (p := ⟨b, o, none⟩) h, fun b o h => hb.frozen (p := ⟨b, o, none⟩) h⟩

def cellsAt (w : World) (b o : Nat) : List Value → Prop
 | [] => True
 | v :: vs => w.cell? ⟨b, o, none⟩ = some v ∧ cellsAt w b (o + 1) vs

def Cells (w w' : World) : Prop := ∀ b o v, w.cell? ⟨b, o, none⟩ = some v → w'.cell? ⟨b, o, none⟩ = some v
theorem Cells.of {w w' : World} (hb : Below w.heap.size w w') : Cells w w' := fun _ _ _ h => cell_below hb h
theorem Cells.trans {a b c : World} (h : Cells a b) (k : Cells b c) : Cells a c := fun x o v hv => k x o v (h x o v hv)

theorem cellsAt.cells {w w' : World} (hb : Cells w w') : ∀ {vs : List Value} {b o : Nat}, cellsAt w b o vs → cellsAt w' b o vs
 | [], _, _, _ => trivial
 | _ :: _, _, _, h => ⟨hb _ _ _ h.1, h.2.cells hb⟩
theorem cellsAt.below {w w' : World} (hb : Below w.heap.size w w') {vs : List Value} {b o : Nat} (h : cellsAt w b o vs) : cellsAt w' b o vs := h.cells (.of hb)

def RdSl {α : Type} (w : World) (sz : Nat) (rd : α → List Value → Prop) (xs : List α) (v : Value) : Prop :=
 ((v = .slice none 0 0 ∨ ∃ a : Addr, v = .slice (some a) 0 0) ∧ xs = []) ∨ ∃ b o cap, v = .slice (some ⟨b, o, none⟩) xs.length cap ∧ xs.length ≤ cap ∧ cap ≤ maxLen ∧
  ∀ i x, xs[i]? = some x → ∃ cs, rd x cs ∧ cellsAt w b (o + i * sz) cs

theorem RdSl.impc {α : Type} {w w' : World} {sz : Nat} {rd rd' : α → List Value → Prop} {xs : List α} {v : Value} (h : RdSl w sz rd xs v)
  (hb : Cells w w') (hrd : ∀ x cs, x ∈ xs → rd x cs → rd' x cs) : RdSl w' sz rd' xs v := by
 rcases h with h | ⟨b, o, cap, hv, h1, h2, h3⟩
 ·exact .inl h
 ·refine .inr ⟨b, o, cap, hv, h1, h2, fun i x hx => ?_⟩
  obtain ⟨cs, hc, hw⟩ := h3 i x hx
  exact ⟨cs, hrd x cs (List.mem_of_getElem? hx) hc, hw.cells hb⟩

theorem RdSl.imp {α : Type} {w w' : World} {sz : Nat} {rd rd' : α → List Value → Prop} {xs : List α} {v : Value} (h : RdSl w sz rd xs v)
  (hb : Below w.heap.size w w') (hrd : ∀ x cs, x ∈ xs → rd x cs → rd' x cs) : RdSl w' sz rd' xs v := by
 rcases h with h | ⟨b, o, cap, hv, h1, h2, h3⟩
 ·exact .inl h
 ·refine .inr ⟨b, o, cap, hv, h1, h2, fun i x hx => ?_⟩
  obtain ⟨cs, hc, hw⟩ := h3 i x hx
  exact ⟨cs, hrd x cs (List.mem_of_getElem? hx) hc, hw.below hb⟩

theorem RdSl.below {α : Type} {w w' : World} {sz : Nat} {rd : α → List Value → Prop} {xs : List α} {v : Value} (h : RdSl w sz rd xs v)
  (hb : Below w.heap.size w w') : RdSl w' sz rd xs v := h.imp hb (fun _ _ _ h => h)

theorem RdSl.shape {α : Type} {w : World} {sz : Nat} {rd : α → List Value → Prop} {xs : List α} {v : Value} (h : RdSl w sz rd xs v) :
  ∃ p cap, v = .slice p xs.length cap ∧ xs.length ≤ cap ∧ cap ≤ maxLen := by
 rcases h with ⟨rfl | ⟨a, rfl⟩, rfl⟩ | ⟨b, o, cap, hv, h1, h2, h3⟩
 ·exact ⟨none, 0, rfl, Nat.le_refl _, by unfold maxLen; omega⟩
 ·exact ⟨some a, 0, rfl, Nat.le_refl _, by unfold maxLen; omega⟩
 ·exact ⟨_, cap, hv, h1, h2⟩

theorem RdSl.at {α : Type} {w : World} {sz : Nat} {rd : α → List Value → Prop} {xs : List α} {p : Option Addr} {n cap : Nat} (h : RdSl w sz rd xs (.slice p n cap))
  {k : Nat} (hk : k < xs.length) : ∃ b o cs, p = some ⟨b, o, none⟩ ∧ rd xs[k] cs ∧ cellsAt w b (o + k * sz) cs := by
 rcases h with ⟨_, rfl⟩ | ⟨b, o, cap, hv, h1, h2, h3⟩
 ·simp at hk
 ·obtain ⟨cs, hc, hw⟩ := h3 k xs[k] (by simp [hk])
  cases hv
  exact ⟨b, o, cs, rfl, hc, hw⟩

mutual
def RdEx (w : World) : Ex → List Value → Prop
 | .mk k s kids, cs => ∃ sv, cs = [.int .i64 k, .string s, sv] ∧ RdExs w kids sv
def RdExs (w : World) : List Ex → Value → Prop
 | [], v => (v = .slice none 0 0 ∨ ∃ a : Addr, v = .slice (some a) 0 0) ∨ ∃ b o cap, v = .slice (some ⟨b, o, none⟩) 0 cap ∧ cap ≤ maxLen
 | x :: xs, v => ∃ b o cap cs, v = .slice (some ⟨b, o, none⟩) (xs.length + 1) cap ∧ xs.length + 1 ≤ cap ∧ cap ≤ maxLen ∧ RdEx w x cs ∧ cellsAt w b o cs ∧ RdExL w b (o + 3) xs
def RdExL (w : World) (b : Nat) : Nat → List Ex → Prop
 | _, [] => True
 | o, x :: xs => ∃ cs, RdEx w x cs ∧ cellsAt w b o cs ∧ RdExL w b (o + 3) xs
end

theorem rdExL_iff {w : World} {b : Nat} : ∀ {xs : List Ex} {o : Nat}, RdExL w b o xs ↔ ∀ i x, xs[i]? = some x → ∃ cs, RdEx w x cs ∧ cellsAt w b (o + i * 3) cs
 | [], o => ⟨fun _ i x h => by simp at h, fun _ => by simp [RdExL]⟩
 | y :: ys, o => by
  rw [RdExL]
  constructor
  ·rintro ⟨cs, h1, h2, h3⟩ i x hx
   cases i with
   | zero => simp at hx; subst hx; exact ⟨cs, h1, by simpa using h2⟩
   | succ i =>
    obtain ⟨cs', h4, h5⟩ := rdExL_iff.1 h3 i x (by simpa using hx)
    exact ⟨cs', h4, by rw [show o + (i + 1) * 3 = o + 3 + i * 3 by omega]; exact h5⟩
  ·intro h
   obtain ⟨cs, h1, h2⟩ := h 0 y (by simp)
   refine ⟨cs, h1, by simpa using h2, rdExL_iff.2 fun i x hx => ?_⟩
   obtain ⟨cs', h4, h5⟩ := h (i + 1) x (by simpa using hx)
   exact ⟨cs', h4, by rw [show o + 3 + i * 3 = o + (i + 1) * 3 by omega]; exact h5⟩

theorem rdExs_iff {w : World} : ∀ {xs : List Ex} {v : Value}, RdExs w xs v ↔ RdSl w 3 (RdEx w) xs v
 | [], v => by
  rw [RdExs]
  constructor
  ·rintro (h | ⟨b, o, cap, h1, h2⟩)
   ·exact .inl ⟨h, rfl⟩
   ·exact .inr ⟨b, o, cap, by simpa using h1, by simp, h2, fun i x h => by simp at h⟩
  ·rintro (h | ⟨b, o, cap, h1, _, h2, _⟩)
   ·exact .inl h.1
   ·exact .inr ⟨b, o, cap, by simpa using h1, h2⟩
 | x :: xs, v => by
  rw [RdExs]
  constructor
  ·rintro ⟨b, o, cap, cs, h1, h2, h3, h4, h5, h6⟩
   refine .inr ⟨b, o, cap, by simpa using h1, by simpa using h2, h3, ?_⟩
   have := (rdExL_iff (xs := x :: xs) (o := o)).1 (by rw [RdExL]; exact ⟨cs, h4, h5, h6⟩)
   exact this
  ·rintro (⟨_, h⟩ | ⟨b, o, cap, h1, h2, h3, h4⟩)
   ·cases h
   ·have := (rdExL_iff (xs := x :: xs) (o := o)).2 h4
    rw [RdExL] at this
    obtain ⟨cs, h5, h6, h7⟩ := this
    exact ⟨b, o, cap, cs, by simpa using h1, by simpa using h2, h3, h5, h6, h7⟩

theorem RdEx.cells {w w' : World} (hb : Cells w w') : ∀ x : Ex, ∀ cs, RdEx w x cs → RdEx w' x cs := by
 intro x
 induction x using Ex.ind with
 | h k s kids ih =>
  intro cs h
  rw [RdEx] at h ⊢
  obtain ⟨sv, h1, h2⟩ := h
  exact ⟨sv, h1, rdExs_iff.2 ((rdExs_iff.1 h2).impc hb (fun x cs hx => ih x hx cs))⟩
theorem RdEx.below {w w' : World} (hb : Below w.heap.size w w') (x : Ex) (cs : List Value) (h : RdEx w x cs) : RdEx w' x cs := RdEx.cells (.of hb) x cs h
theorem RdExs.cells {w w' : World} (hb : Cells w w') {xs : List Ex} {v : Value} (h : RdExs w xs v) : RdExs w' xs v :=
 rdExs_iff.2 ((rdExs_iff.1 h).impc hb (fun x cs _ => RdEx.cells hb x cs))

theorem RdExs.below {w w' : World} (hb : Below w.heap.size w w') {xs : List Ex} {v : Value} (h : RdExs w xs v) : RdExs w' xs v :=
 rdExs_iff.2 ((rdExs_iff.1 h).imp hb (fun x cs _ => RdEx.below hb x cs))

theorem RdExs.shape {w : World} {xs : List Ex} {v : Value} (h : RdExs w xs v) : ∃ p cap, v = .slice p xs.length cap ∧ xs.length ≤ cap ∧ cap ≤ maxLen := (rdExs_iff.1 h).shape

theorem RdExs.at {w : World} {xs : List Ex} {p : Option Addr} {n cap : Nat} (h : RdExs w xs (.slice p n cap)) {k : Nat} (hk : k < xs.length) :
  ∃ b o kd s kids sv, p = some ⟨b, o, none⟩ ∧ xs[k] = .mk kd s kids ∧ RdExs w kids sv ∧
   w.cell? ⟨b, o + k * 3, none⟩ = some (.int .i64 kd) ∧ w.cell? ⟨b, o + k * 3 + 1, none⟩ = some (.string s) ∧ w.cell? ⟨b, o + k * 3 + 2, none⟩ = some sv := by
 obtain ⟨b, o, cs, hp, hr, hc⟩ := (rdExs_iff.1 h).at hk
 rcases hx : xs[k] with ⟨kd, s, kids⟩
 rw [hx, RdEx] at hr
 obtain ⟨sv, rfl, hr⟩ := hr
 exact ⟨b, o, kd, s, kids, sv, hp, rfl, hr, hc.1, hc.2.1, hc.2.2.1⟩

def all2 {α β : Type} (f : α → β → Bool) : List α → List β → Bool
 | [], [] => true
 | x :: xs, y :: ys => f x y && all2 f xs ys
 | _, _ => false

theorem all2_iff {α β : Type} {f : α → β → Bool} : ∀ {xs : List α} {ys : List β}, all2 f xs ys = true ↔ xs.length = ys.length ∧ ∀ i (h : i < xs.length) (h' : i < ys.length), f xs[i] ys[i] = true
 | [], [] => by simp [all2]
 | [], _ :: _ => by simp [all2]
 | _ :: _, [] => by simp [all2]
 | x :: xs, y :: ys => by
  simp only [all2, Bool.and_eq_true, all2_iff, List.length_cons]
  constructor
  ·rintro ⟨h1, h2, h3⟩
   refine ⟨by omega, fun i h h' => ?_⟩
   cases i with
   | zero => exact h1
   | succ i => exact h3 i (by omega) (by omega)
  ·rintro ⟨h1, h2⟩
   exact ⟨h2 0 (by omega) (by omega), by omega, fun i h h' => h2 (i + 1) (by omega) (by omega)⟩

theorem all2_len {α β : Type} {f : α → β → Bool} {xs : List α} {ys : List β} (h : xs.length ≠ ys.length) : all2 f xs ys = false := by
 rw [← Bool.not_eq_true, all2_iff]; exact fun hh => h hh.1
theorem all2_at {α β : Type} {f : α → β → Bool} {xs : List α} {ys : List β} {k : Nat} (h : k < xs.length) (h' : k < ys.length) (hf : f xs[k] ys[k] = false) : all2 f xs ys = false := by
 rw [← Bool.not_eq_true, all2_iff]; exact fun hh => by rw [hh.2 k h h'] at hf; cases hf

mutual
def exSame : Ex → Ex → Bool
 | .mk k s l, .mk k' s' l' => (k == k') && (s.toList == s'.toList) && exsSame l l'
def exsSame : List Ex → List Ex → Bool
 | [], [] => true
 | x :: xs, y :: ys => exSame x y && exsSame xs ys
 | _, _ => false
end
theorem exsSame_eq : ∀ xs ys, exsSame xs ys = all2 exSame xs ys
 | [], [] => by simp [exsSame, all2]
 | [], _ :: _ => by simp [exsSame, all2]
 | _ :: _, [] => by simp [exsSame, all2]
 | x :: xs, y :: ys => by simp [exsSame, all2, exsSame_eq xs ys]

theorem exSame_iff_kids (k k' : Int) (s s' : ByteArray) (l l' : List Ex) : exSame (.mk k s l) (.mk k' s' l') = ((k == k') && (s.toList == s'.toList) && all2 exSame l l') := by
 rw [exSame, exsSame_eq]

structure Val where
 kind : Int
 num : Int
 text : ByteArray
structure Opd where
 kind : Int
 name : ByteArray
 key : ByteArray
 val : Val
structure Cnd where
 op : Int
 left : Opd
 right : Opd
structure Pat where
 frm : ByteArray
 to : ByteArray
 path : Bool
 label : ByteArray
 name : ByteArray
 expr : Ex
structure Qry where
 pats : List Pat
 conds : List Cnd
 ret : List Opd
 range : Int
 slide : Int

def Val.cells (x : Val) : List Value := [.int .i64 x.kind, .int .i64 x.num, .string x.text]
def Opd.cells (x : Opd) : List Value := [.int .i64 x.kind, .string x.name, .string x.key, .int .i64 x.val.kind, .int .i64 x.val.num, .string x.val.text]
def Cnd.cells (x : Cnd) : List Value := [.int .i64 x.op, .int .i64 x.left.kind, .string x.left.name, .string x.left.key, .int .i64 x.left.val.kind, .int .i64 x.left.val.num, .string x.left.val.text,
 .int .i64 x.right.kind, .string x.right.name, .string x.right.key, .int .i64 x.right.val.kind, .int .i64 x.right.val.num, .string x.right.val.text]

def Val.eqb (x y : Val) : Bool := (x.kind == y.kind) && (x.num == y.num) && (x.text.toList == y.text.toList)
def Opd.eqb (x y : Opd) : Bool := (x.kind == y.kind) && (x.name.toList == y.name.toList) && (x.key.toList == y.key.toList) && x.val.eqb y.val
def Cnd.eqb (x y : Cnd) : Bool := (x.op == y.op) && x.left.eqb y.left && x.right.eqb y.right

def seqb (s t : ByteArray) : Bool := s.toList == t.toList

def patSame (x y : Pat) : Bool := (x.frm.toList == y.frm.toList) && (x.to.toList == y.to.toList) && (x.path == y.path) && (x.label.toList == y.label.toList) && (x.name.toList == y.name.toList) && exSame x.expr y.expr
def qrySame (x y : Qry) : Bool := all2 patSame x.pats y.pats && all2 Cnd.eqb x.conds y.conds && all2 Opd.eqb x.ret y.ret && (x.range == y.range) && (x.slide == y.slide)

def RdPat (w : World) (p : Pat) (cs : List Value) : Prop :=
 ∃ k s l sv, p.expr = .mk k s l ∧ RdExs w l sv ∧ cs = [.string p.frm, .string p.to, .bool p.path, .string p.label, .string p.name, .int .i64 k, .string s, sv]
def RdOpd (p : Opd) (cs : List Value) : Prop := cs = p.cells
def RdCnd (p : Cnd) (cs : List Value) : Prop := cs = p.cells
def RdStr (p : ByteArray) (cs : List Value) : Prop := cs = [.string p]
def RdInt (p : Int) (cs : List Value) : Prop := cs = [.int .i64 p]

theorem RdPat.cells {w w' : World} (hb : Cells w w') {p : Pat} {cs : List Value} (h : RdPat w p cs) : RdPat w' p cs := by
 obtain ⟨k, s, l, sv, h1, h2, h3⟩ := h
 exact ⟨k, s, l, sv, h1, h2.cells hb, h3⟩
theorem RdPat.below {w w' : World} (hb : Below w.heap.size w w') {p : Pat} {cs : List Value} (h : RdPat w p cs) : RdPat w' p cs := h.cells (.of hb)

abbrev RdPats (w : World) (xs : List Pat) (v : Value) : Prop := RdSl w 8 (RdPat w) xs v
abbrev RdOpds (w : World) (xs : List Opd) (v : Value) : Prop := RdSl w 6 RdOpd xs v
abbrev RdCnds (w : World) (xs : List Cnd) (v : Value) : Prop := RdSl w 13 RdCnd xs v
abbrev RdStrs (w : World) (xs : List ByteArray) (v : Value) : Prop := RdSl w 1 RdStr xs v
abbrev RdInts (w : World) (xs : List Int) (v : Value) : Prop := RdSl w 1 RdInt xs v

theorem rdPats_cells {w w' : World} (hb : Cells w w') {xs : List Pat} {v : Value} (h : RdPats w xs v) : RdPats w' xs v := RdSl.impc h hb (fun _ _ _ h => h.cells hb)
theorem RdSl.cells {α : Type} {w w' : World} {sz : Nat} {rd : α → List Value → Prop} {xs : List α} {v : Value} (h : RdSl w sz rd xs v) (hb : Cells w w') : RdSl w' sz rd xs v := h.impc hb (fun _ _ _ h => h)
theorem rdPats_below {w w' : World} (hb : Below w.heap.size w w') {xs : List Pat} {v : Value} (h : RdPats w xs v) : RdPats w' xs v := RdSl.imp h hb (fun _ _ _ h => h.below hb)

def RdQry (w : World) (q : Qry) (cs : List Value) : Prop :=
 ∃ v1 v2 v3, RdPats w q.pats v1 ∧ RdCnds w q.conds v2 ∧ RdOpds w q.ret v3 ∧ cs = [v1, v2, v3, .int .i64 q.range, .int .i64 q.slide]

theorem RdQry.cells {w w' : World} (hb : Cells w w') {q : Qry} {cs : List Value} (h : RdQry w q cs) : RdQry w' q cs := by
 obtain ⟨v1, v2, v3, h1, h2, h3, h4⟩ := h
 exact ⟨v1, v2, v3, rdPats_cells hb h1, h2.cells hb, h3.cells hb, h4⟩
theorem RdQry.below {w w' : World} (hb : Below w.heap.size w w') {q : Qry} {cs : List Value} (h : RdQry w q cs) : RdQry w' q cs := h.cells (.of hb)

/-! names -/
def ltrI (c : Int) : Bool := decide (97 ≤ c) && decide (c ≤ 122)
def signI (c : Int) : Bool := ltrI c || c == 95 || (decide (48 ≤ c) && decide (c ≤ 57))
def vertB (s : ByteArray) : Bool := s.data.toList.all (fun b => signI b.toNat) && decide (1 ≤ s.size) && decide (s.size ≤ 20)

theorem allBytes_iff (f : UInt8 → Bool) (s : ByteArray) : s.data.toList.all f = true ↔ ∀ j (h : j < s.size), f s[j] = true := by
 rw [List.all_eq_true]
 constructor
 ·intro h j hj
  exact h _ (by simp [ByteArray.getElem_eq_getElem_data])
 ·intro h x hx
  obtain ⟨j, hj, rfl⟩ := List.getElem_of_mem hx
  exact h j (by simpa using hj)

theorem vertB_no {s : ByteArray} {j : Nat} (h : j < s.size) (hf : signI s[j].toNat = false) : vertB s = false := by
 have : s.data.toList.all (fun b => signI b.toNat) = false := by
  rw [← Bool.not_eq_true, allBytes_iff]; exact fun hh => by rw [hh j h] at hf; cases hf
 simp [vertB, this]
theorem vertB_yes {s : ByteArray} (h : ∀ j (h : j < s.size), signI s[j].toNat = true) : vertB s = (decide (1 ≤ s.size) && decide (s.size ≤ 20)) := by
 rw [vertB, (allBytes_iff _ s).2 h, Bool.true_and]

theorem toList_isEmpty (s : ByteArray) : s.toList.isEmpty = decide (s.size = 0) := by
 rw [ByteArray.toList_eq]
 obtain ⟨⟨l⟩⟩ := s
 cases l <;> simp [ByteArray.size]

def words : List ByteArray := [⟨#[97, 115]⟩, ⟨#[109, 97, 116, 99, 104]⟩, ⟨#[119, 104, 101, 114, 101]⟩, ⟨#[97, 110, 100]⟩, ⟨#[114, 101, 116, 117, 114, 110]⟩, ⟨#[114, 97, 110, 103, 101]⟩, ⟨#[115, 108, 105, 100, 101]⟩]

theorem rdSl_block {α : Type} {W : World} {n : Nat} {C : Array Value} {t : TypeId} {fz : Nat × Nat} (h : W.heap[n]? = some (.cells C t fz)) {sz : Nat} {rd : α → List Value → Prop} {xs : List α}
  (f : α → List Value) (hf : ∀ x, x ∈ xs → rd x (f x)) (hsz : ∀ x, x ∈ xs → (f x).length = sz) (hC : C.toList = xs.flatMap f) {m cap : Nat} (hm : m = xs.length) (hc : m ≤ cap) (hc2 : cap ≤ maxLen) :
  RdSl W sz rd xs (.slice (some ⟨n, 0, none⟩) m cap) := by
 subst hm
 refine .inr ⟨n, 0, cap, rfl, hc, hc2, fun i x hx => ⟨f x, hf x (List.mem_of_getElem? hx), ?_⟩⟩
 have key : ∀ (l : List α) (i : Nat) (x : α), (∀ x, x ∈ l → (f x).length = sz) → l[i]? = some x → ∀ j v, (f x)[j]? = some v → (l.flatMap f)[i * sz + j]? = some v := by
  intro l
  induction l with
  | nil => intro i x _ h; simp at h
  | cons y l ih =>
   intro i x hl hx j v hj
   rw [List.flatMap_cons]
   cases i with
   | zero =>
    simp at hx; subst hx
    rw [List.getElem?_append_left (by rw [Nat.zero_mul, Nat.zero_add]; exact (List.getElem?_eq_some_iff.1 hj).1)]
    simpa using hj
   | succ i =>
    have hy := hl y (by simp)
    rw [List.getElem?_append_right (by rw [hy, Nat.succ_mul]; omega), hy, show (i + 1) * sz + j - sz = i * sz + j by rw [Nat.succ_mul]; omega]
    exact ih i x (fun x hx => hl x (by simp [hx])) (by simpa using hx) j v hj
 have hcell : ∀ j v, (f x)[j]? = some v → W.cell? ⟨n, 0 + i * sz + j, none⟩ = some v := by
  intro j v hj
  have := key xs i x hsz hx j v hj
  rw [← hC] at this
  simp only [World.cell?, h]
  simpa using this
 generalize 0 + i * sz = o at hcell
 clear hf hsz hC key hx
 generalize f x = vs at hcell
 induction vs generalizing o with
 | nil => trivial
 | cons y vs ih => exact ⟨by simpa using hcell 0 y rfl, ih (o + 1) (fun j v hj => by rw [show o + 1 + j = o + (j + 1) by omega]; exact hcell (j + 1) v (by simpa using hj))⟩

theorem heap_new (W : World) (o : Obj) : (W.alloc o).heap[W.heap.size]? = some o := by
 show (W.heap.push o)[W.heap.size]? = some o
 simp

def firstI (s : ByteArray) : Int := if h : 0 < s.size then (s[0]'h).toNat else 0
def freeB (s : ByteArray) : Bool := vertB s && ltrI (firstI s) && !words.any (fun x => seqb s x)
theorem vertB_size {s : ByteArray} (h : vertB s = true) : 0 < s.size ∧ s.size ≤ 20 := by
 simp only [vertB, Bool.and_eq_true, decide_eq_true_eq] at h
 omega

/-! values, parts of expressions -/
def okByte (n : Nat) : Bool := !(decide (n < 32) || decide (126 < n) || n == 34 || n == 92)
def plainB (s : ByteArray) : Bool := s.data.toList.all (fun b => okByte b.toNat)
def noB (s : ByteArray) : Bool := decide (s.size = 0)
def maxNumI : Int := 1099511627776
def valRight (v : Val) : Bool := if v.kind == 1 then noB v.text && decide (-maxNumI ≤ v.num) && decide (v.num ≤ maxNumI) else
 if v.kind == 2 then v.num == 0 && decide (v.text.size ≤ 40) && plainB v.text else false
def partB (k : Int) (s : ByteArray) (n : Nat) : Bool := if k == 1 then decide (n = 0) && freeB s else
 if k == 2 || k == 3 then decide (1 < n) && noB s else
 if k == 4 || k == 5 || k == 6 then decide (n = 1) && noB s else false

theorem plainB_no {s : ByteArray} {j : Nat} (h : j < s.size) (hf : okByte s[j].toNat = false) : plainB s = false := by
 rw [plainB, ← Bool.not_eq_true, allBytes_iff]; exact fun hh => by rw [hh j h] at hf; cases hf
theorem plainB_yes {s : ByteArray} (h : ∀ j (h : j < s.size), okByte s[j].toNat = true) : plainB s = true := by
 rw [plainB, allBytes_iff (fun b => okByte b.toNat)]; exact h
theorem okByte_cases (n : Nat) : (n < 32 ∧ okByte n = false) ∨ (32 ≤ n ∧ 126 < n ∧ okByte n = false) ∨ (32 ≤ n ∧ n ≤ 126 ∧ ((n : Int) == 34) = true ∧ okByte n = false) ∨
  (32 ≤ n ∧ n ≤ 126 ∧ ((n : Int) == 34) = false ∧ ((n : Int) == 92) = true ∧ okByte n = false) ∨ (32 ≤ n ∧ n ≤ 126 ∧ ((n : Int) == 34) = false ∧ ((n : Int) == 92) = false ∧ okByte n = true) := by
 unfold okByte
 by_cases h1 : n < 32
 ·exact .inl ⟨h1, by simp [h1]⟩
 ·by_cases h2 : 126 < n
  ·exact .inr (.inl ⟨by omega, h2, by simp [h2]⟩)
  ·by_cases h3 : n = 34
   ·subst h3; exact .inr (.inr (.inl ⟨by omega, by omega, rfl, rfl⟩))
   ·by_cases h4 : n = 92
    ·subst h4; exact .inr (.inr (.inr (.inl ⟨by omega, by omega, rfl, rfl, rfl⟩)))
    ·exact .inr (.inr (.inr (.inr ⟨by omega, by omega, by simp; omega, by simp; omega, by simp [h1, h2, h3, h4]⟩)))

/-! well-formed data: texts no longer than they may be -/
def okT (s : ByteArray) : Prop := s.size ≤ 140737488355328
theorem okT.len {s : ByteArray} (h : okT s) : s.size ≤ maxLen := by unfold okT at h; unfold maxLen; omega
mutual
def Ex.ok : Ex → Prop
 | .mk _ s l => okT s ∧ exsOk l
def exsOk : List Ex → Prop
 | [] => True
 | x :: xs => x.ok ∧ exsOk xs
end
theorem exsOk_iff : ∀ {l : List Ex}, exsOk l ↔ ∀ x, x ∈ l → x.ok
 | [] => by simp [exsOk]
 | x :: xs => by simp [exsOk, exsOk_iff (l := xs)]
def Val.ok (v : Val) : Prop := okT v.text
def Opd.ok (o : Opd) : Prop := okT o.name ∧ okT o.key ∧ o.val.ok
def Cnd.ok (c : Cnd) : Prop := c.left.ok ∧ c.right.ok
def Pat.ok (p : Pat) : Prop := okT p.frm ∧ okT p.to ∧ okT p.label ∧ okT p.name ∧ p.expr.ok
def Qry.ok (q : Qry) : Prop := (∀ p, p ∈ q.pats → p.ok) ∧ (∀ c, c ∈ q.conds → c.ok) ∧ (∀ o, o ∈ q.ret → o.ok)
def Qry.small (q : Qry) : Prop := q.pats.length ≤ 140737488355328 ∧ q.conds.length ≤ 140737488355328 ∧ q.ret.length ≤ 140737488355328

/-! an expression's parts, it first -/
mutual
def exParts : Ex → List Ex
 | .mk k s l => .mk k s l :: exsParts l
def exsParts : List Ex → List Ex
 | [] => []
 | x :: xs => exParts x ++ exsParts xs
end
theorem exsParts_eq : ∀ l : List Ex, exsParts l = l.flatMap exParts
 | [] => rfl
 | x :: xs => by rw [exsParts, exsParts_eq xs, List.flatMap_cons]

theorem exsParts_append (a b : List Ex) : exsParts (a ++ b) = exsParts a ++ exsParts b := by simp [exsParts_eq]
theorem exsParts_take_le (l : List Ex) (k : Nat) : (exsParts (l.take k)).length ≤ (exsParts l).length := by
 have := congrArg List.length (exsParts_append (l.take k) (l.drop k))
 rw [List.take_append_drop, List.length_append] at this
 omega
theorem exsParts_take_succ {l : List Ex} {k : Nat} (h : k < l.length) : exsParts (l.take (k + 1)) = exsParts (l.take k) ++ exParts l[k] := by
 rw [List.take_succ_eq_append_getElem h, exsParts_append]; simp [exsParts]

def Ex.part : Ex → Bool | .mk k s l => partB k s l.length
def exRight (x : Ex) : Bool := decide ((exParts x).length ≤ 24) && (exParts x).all Ex.part

def Ex.sig : Ex → Int × ByteArray × Nat
 | .mk k s l => (k, s, l.length)

def partS (s : Int × ByteArray × Nat) : Bool := partB s.1 s.2.1 s.2.2
theorem part_sig (x : Ex) : x.part = partS x.sig := by obtain ⟨k, s, l⟩ := x; rfl
theorem exRight_sig (x : Ex) : exRight x = (decide (((exParts x).map Ex.sig).length ≤ 24) && ((exParts x).map Ex.sig).all partS) := by
 rw [exRight, List.length_map, List.all_map]
 congr 2
 funext y
 exact part_sig y

structure XC where
 kind : Int
 label : ByteArray
 ptr : Option Addr
 len : Nat
 cap : Nat
 hl : label.size ≤ maxLen
 hn : len ≤ maxLen
def XC.val (x : XC) : Value := .agg #[.int .i64 x.kind, .string x.label, .slice x.ptr x.len x.cap]
def XC.sig (x : XC) : Int × ByteArray × Nat := (x.kind, x.label, x.len)

/-! operands, patterns, conditions, queries: are they right? -/
def Val.none (v : Val) : Bool := v.kind == 0 && v.num == 0 && noB v.text
def opdRight (o : Opd) : Bool := if o.kind == 1 then freeB o.name && noB o.key && o.val.none else
 if o.kind == 2 then freeB o.name && freeB o.key && o.val.none else
 if o.kind == 3 then valRight o.val && noB o.name && noB o.key else false
def patRight (p : Pat) : Bool := freeB p.frm && freeB p.to && if p.path then noB p.label && noB p.name && exRight p.expr else
 freeB p.label && (noB p.name || freeB p.name) && exSame p.expr (.mk 0 ⟨#[]⟩ [])
def betw (n a b : Int) : Bool := decide (a ≤ n) && decide (n ≤ b)
def cndRight (c : Cnd) : Bool := betw c.op 1 6 && opdRight c.left && opdRight c.right
def tldRight (o : Opd) : Bool := o.kind != 3 && opdRight o
def qryRight (q : Qry) : Bool := betw q.pats.length 1 4 && decide (q.conds.length ≤ 6) && betw q.ret.length 1 4 && betw q.range 1 1048576 && betw q.slide 1 1048576 &&
 q.pats.all patRight && q.conds.all cndRight && q.ret.all tldRight

theorem isEmpty_noB (s : ByteArray) : s.toList.isEmpty = noB s := by rw [toList_isEmpty, noB]

/-! the size of a query, as far as 401: the statements' own guard -/
mutual
def szE : Ex → Nat → Nat
 | .mk _ _ l, deep => if 60 < deep then 401 else szL l (deep + 1) 1
def szL : List Ex → Nat → Nat → Nat
 | [], _, n => n
 | x :: xs, deep, n => if n ≤ 400 then szL xs deep (n + szE x deep) else n
end
theorem szL_over : ∀ (l : List Ex) (deep n : Nat), 400 < n → szL l deep n = n
 | [], _, _, _ => by rw [szL]
 | x :: xs, deep, n, h => by rw [szL, if_neg (by omega)]

theorem szE_spec (x : Ex) : ∀ deep, deep ≤ 61 → szE x deep ≤ 401 + 400 * (61 - deep) ∧ (szE x deep ≤ 400 → szE x deep = (exParts x).length) := by
 induction x using Ex.ind with
 | h k s l ih =>
  intro deep hd
  rw [szE, exParts]
  by_cases h : 60 < deep
  ·rw [if_pos h]; exact ⟨by omega, fun h => by omega⟩
  ·rw [if_neg h]
   have key : ∀ (l : List Ex), (∀ x, x ∈ l → ∀ deep, deep ≤ 61 → szE x deep ≤ 401 + 400 * (61 - deep) ∧ (szE x deep ≤ 400 → szE x deep = (exParts x).length)) → ∀ n, n ≤ 400 →
     szL l (deep + 1) n ≤ 400 + (401 + 400 * (61 - (deep + 1))) ∧ (szL l (deep + 1) n ≤ 400 → szL l (deep + 1) n = n + (exsParts l).length) := by
    intro l
    induction l with
    | nil => intro _ n hn; rw [szL, exsParts]; exact ⟨by omega, fun _ => by simp⟩
    | cons y ys ihl =>
     intro hall n hn
     rw [szL, if_pos hn, exsParts]
     obtain ⟨h1, h2⟩ := hall y (by simp) (deep + 1) (by omega)
     by_cases h3 : n + szE y (deep + 1) ≤ 400
     ·obtain ⟨h4, h5⟩ := ihl (fun x hx => hall x (by simp [hx])) _ h3
      exact ⟨h4, fun h => by rw [h5 h, h2 (by omega), List.length_append]; omega⟩
     ·rw [szL_over _ _ _ (by omega)]
      exact ⟨by omega, fun h => by omega⟩
   obtain ⟨h1, h2⟩ := key l ih 1 (by omega)
   exact ⟨by omega, fun h => by rw [h2 h]; simp; omega⟩

def szP : List Pat → Nat → Nat
 | [], n => n
 | p :: ps, n => if n ≤ 400 then szP ps (n + szE p.expr 0) else n
def szQ (q : Qry) : Nat := szP q.pats (q.pats.length + q.conds.length + q.ret.length)
theorem szP_spec : ∀ (l : List Pat) (n : Nat), szP l n ≤ 400 → n ≤ 400 ∧ n + (l.map (fun p => (exParts p.expr).length)).sum ≤ 400
 | [], n, h => by rw [szP] at h; simpa using h
 | p :: ps, n, h => by
  rw [szP] at h
  by_cases hn : n ≤ 400
  ·rw [if_pos hn] at h
   obtain ⟨h1, h2⟩ := szP_spec ps _ h
   obtain ⟨_, h4⟩ := szE_spec p.expr 0 (by omega)
   have := h4 (by omega)
   simp only [List.map_cons, List.sum_cons]
   omega
  ·rw [if_neg hn] at h; omega
theorem le_sum_of_mem {l : List Nat} {n : Nat} (h : n ∈ l) : n ≤ l.sum := by
 induction l with
 | nil => cases h
 | cons x xs ih =>
  rw [List.sum_cons]
  cases h with
  | head => omega
  | tail _ h => have := ih h; omega
theorem szQ_spec {q : Qry} (h : szQ q ≤ 400) : q.pats.length + q.conds.length + q.ret.length + (q.pats.map (fun p => (exParts p.expr).length)).sum ≤ 400 ∧ ∀ p, p ∈ q.pats → (exParts p.expr).length ≤ 400 := by
 obtain ⟨h1, h2⟩ := szP_spec _ _ h
 refine ⟨h2, fun p hp => ?_⟩
 have : (exParts p.expr).length ≤ (q.pats.map (fun p => (exParts p.expr).length)).sum := le_sum_of_mem (List.mem_map.2 ⟨p, hp, rfl⟩)
 omega

end Go.Proofs.Ytldnlbcibmmbbaa
