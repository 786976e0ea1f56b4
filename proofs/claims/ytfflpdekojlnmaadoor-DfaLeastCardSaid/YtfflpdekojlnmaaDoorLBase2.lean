/- Data of the program in plain Lean, and what it means that a value reads as such data in a world. No program is named here. -/
import Derived.Attr
import Derived.WalkKit
import Derived.WalkSpells
import Derived.WalkLawsBesides
import Derived.Lib.Hide
namespace Go.Proofs.YtfflpdekojlnmaaDoor
attribute [go_sem_proc] Nat.reduceAdd Nat.reduceSub Nat.reduceMul Nat.reduceLeDiff Nat.reduceEqDiff Nat.reduceLT Int.reduceToNat reduceCtorEq Int.reduceLE Int.reduceLT Int.reduceNeg Int.reduceEq Int.reduceBEq Int.reduceBNe
attribute [go_sem_proc ↓] reduceIte
open Go.RowKit

inductive Ex where
 | mk (kind : Int) (label : ByteArray) (kids : List Ex)

def Ex.kind : Ex → Int | .mk k _ _ => k
def Ex.label : Ex → ByteArray | .mk _ s _ => s
def Ex.kids : Ex → List Ex | .mk _ _ l => l

theorem Ex.ind {P : Ex → Prop} (h : ∀ k s kids, (∀ x, x ∈ kids → P x) → P (.mk k s kids)) : ∀ x, P x :=
 @Ex.rec P (fun l => ∀ x, x ∈ l → P x) (fun k s kids ih => h k s kids ih) (fun x hx => by cases hx) (fun hd tl h1 h2 x hx => by
  cases hx with
  | head => exact h1
  | tail _ hm => exact h2 x hm)

def Ret (w : World) (v : Value) (e : Ending) (w' : World) : Prop := e = .returned v ∧ Below w.heap.size w w'

theorem lt_of_cell {w : World} {b o : Nat} {v : Value} (h : w.cell? ⟨b, o, none⟩ = some v) : b < w.heap.size := by
 rcases Nat.lt_or_ge b w.heap.size with h' | h'
 ·exact h'
 ·simp [World.cell?, Array.getElem?_eq_none h'] at h

theorem cell_below {w w' : World} (hb : Below w.heap.size w w') {b o : Nat} {v : Value} (h : w.cell? ⟨b, o, none⟩ = some v) : w'.cell? ⟨b, o, none⟩ = some v :=
 (hb.cell (p := ⟨b, o, none⟩) (lt_of_cell h)).trans h

theorem below_step {w w1 w2 : World} (h : Below w.heap.size w w1) (k : Below w1.heap.size w1 w2) : Below w.heap.size w w2 := h.trans (k.mono h.size)

theorem below_drew (w : World) : Below w.heap.size w w.drew := (Below.refl _ _).drew

theorem ret_b {w w' : World} {v : Value} {b b' : Bool} (hv : v = .bool b) (h : b = b') (hb : Below w.heap.size w w') : Ret w (.bool b') (.returned v) w' := ⟨by rw [hv, h], hb⟩

def RetS (w : World) (v : Value) (e : Ending) (w' : World) : Prop := e = .returned v ∧ w = w'
theorem rets_i {w : World} {v : Value} {b b' : Int} (hv : v = .int .i64 b) (h : b = b') : RetS w (.int .i64 b') (.returned v) w := ⟨by rw [hv, h], rfl⟩

def cellsAt (w : World) (b o : Nat) : List Value → Prop
 | [] => True
 | v :: vs => w.cell? ⟨b, o, none⟩ = some v ∧ cellsAt w b (o + 1) vs

def Cells (w w' : World) : Prop := ∀ b o v, w.cell? ⟨b, o, none⟩ = some v → w'.cell? ⟨b, o, none⟩ = some v
theorem Cells.of {w w' : World} (hb : Below w.heap.size w w') : Cells w w' := fun _ _ _ h => cell_below hb h
theorem Cells.trans {a b c : World} (h : Cells a b) (k : Cells b c) : Cells a c := fun x o v hv => k x o v (h x o v hv)

theorem cellsAt.cells {w w' : World} (hb : Cells w w') : ∀ {vs : List Value} {b o : Nat}, cellsAt w b o vs → cellsAt w' b o vs
 | [], _, _, _ => trivial
 | _ :: _, _, _, h => ⟨hb _ _ _ h.1, h.2.cells hb⟩
theorem cellsAt.below {w w' : World} (hb : Below w.heap.size w w') {vs : List Value} {b o : Nat} (h : cellsAt w b o vs) : cellsAt w' b o vs := h.cells (.of hb)

def RdSl {α : Type} (w : World) (sz : Nat) (rd : α → List Value → Prop) (xs : List α) (v : Value) : Prop :=
 ((v = .slice none 0 0 ∨ ∃ a : Addr, v = .slice (some a) 0 0) ∧ xs = []) ∨ ∃ b o cap, v = .slice (some ⟨b, o, none⟩) xs.length cap ∧ xs.length ≤ cap ∧ cap ≤ maxLen ∧
  ∀ i x, xs[i]? = some x → ∃ cs, rd x cs ∧ cellsAt w b (o + i * sz) cs

theorem RdSl.impc {α : Type} {w w' : World} {sz : Nat} {rd rd' : α → List Value → Prop} {xs : List α} {v : Value} (h : RdSl w sz rd xs v)
  (hb : Cells w w') (hrd : ∀ x cs, x ∈ xs → rd x cs → rd' x cs) : RdSl w' sz rd' xs v := by
 rcases h with h | ⟨b, o, cap, hv, h1, h2, h3⟩
 ·exact .inl h
 ·refine .inr ⟨b, o, cap, hv, h1, h2, fun i x hx => ?_⟩
  obtain ⟨cs, hc, hw⟩ := h3 i x hx
  exact ⟨cs, hrd x cs (List.mem_of_getElem? hx) hc, hw.cells hb⟩

theorem RdSl.imp {α : Type} {w w' : World} {sz : Nat} {rd rd' : α → List Value → Prop} {xs : List α} {v : Value} (h : RdSl w sz rd xs v)
  (hb : Below w.heap.size w w') (hrd : ∀ x cs, x ∈ xs → rd x cs → rd' x cs) : RdSl w' sz rd' xs v := by
 rcases h with h | ⟨b, o, cap, hv, h1, h2, h3⟩
 ·exact .inl h
 ·refine .inr ⟨b, o, cap, hv, h1, h2, fun i x hx => ?_⟩
  obtain ⟨cs, hc, hw⟩ := h3 i x hx
  exact ⟨cs, hrd x cs (List.mem_of_getElem? hx) hc, hw.below hb⟩

theorem RdSl.below {α : Type} {w w' : World} {sz : Nat} {rd : α → List Value → Prop} {xs : List α} {v : Value} (h : RdSl w sz rd xs v)
  (hb : Below w.heap.size w w') : RdSl w' sz rd xs v := h.imp hb (fun _ _ _ h => h)

theorem RdSl.shape {α : Type} {w : World} {sz : Nat} {rd : α → List Value → Prop} {xs : List α} {v : Value} (h : RdSl w sz rd xs v) :
  ∃ p cap, v = .slice p xs.length cap ∧ xs.length ≤ cap ∧ cap ≤ maxLen := by
 rcases h with ⟨rfl | ⟨a, rfl⟩, rfl⟩ | ⟨b, o, cap, hv, h1, h2, h3⟩
 ·exact ⟨none, 0, rfl, Nat.le_refl _, by unfold maxLen; omega⟩
 ·exact ⟨some a, 0, rfl, Nat.le_refl _, by unfold maxLen; omega⟩
 ·exact ⟨_, cap, hv, h1, h2⟩

theorem RdSl.at {α : Type} {w : World} {sz : Nat} {rd : α → List Value → Prop} {xs : List α} {p : Option Addr} {n cap : Nat} (h : RdSl w sz rd xs (.slice p n cap))
  {k : Nat} (hk : k < xs.length) : ∃ b o cs, p = some ⟨b, o, none⟩ ∧ rd xs[k] cs ∧ cellsAt w b (o + k * sz) cs := by
 rcases h with ⟨_, rfl⟩ | ⟨b, o, cap, hv, h1, h2, h3⟩
 ·simp at hk
 ·obtain ⟨cs, hc, hw⟩ := h3 k xs[k] (by simp [hk])
  cases hv
  exact ⟨b, o, cs, rfl, hc, hw⟩

mutual
def RdEx (w : World) : Ex → List Value → Prop
 | .mk k s kids, cs => ∃ sv, cs = [.int .i64 k, .string s, sv] ∧ RdExs w kids sv
def RdExs (w : World) : List Ex → Value → Prop
 | [], v => (v = .slice none 0 0 ∨ ∃ a : Addr, v = .slice (some a) 0 0) ∨ ∃ b o cap, v = .slice (some ⟨b, o, none⟩) 0 cap ∧ cap ≤ maxLen
 | x :: xs, v => ∃ b o cap cs, v = .slice (some ⟨b, o, none⟩) (xs.length + 1) cap ∧ xs.length + 1 ≤ cap ∧ cap ≤ maxLen ∧ RdEx w x cs ∧ cellsAt w b o cs ∧ RdExL w b (o + 3) xs
def RdExL (w : World) (b : Nat) : Nat → List Ex → Prop
 | _, [] => True
 | o, x :: xs => ∃ cs, RdEx w x cs ∧ cellsAt w b o cs ∧ RdExL w b (o + 3) xs
end

theorem rdExL_iff {w : World} {b : Nat} : ∀ {xs : List Ex} {o : Nat}, RdExL w b o xs ↔ ∀ i x, xs[i]? = some x → ∃ cs, RdEx w x cs ∧ cellsAt w b (o + i * 3) cs
 | [], o => ⟨fun _ i x h => by simp at h, fun _ => by simp [RdExL]⟩
 | y :: ys, o => by
  rw [RdExL]
  constructor
  ·rintro ⟨cs, h1, h2, h3⟩ i x hx
   cases i with
   | zero => simp at hx; subst hx; exact ⟨cs, h1, by simpa using h2⟩
   | succ i =>
    obtain ⟨cs', h4, h5⟩ := rdExL_iff.1 h3 i x (by simpa using hx)
    exact ⟨cs', h4, by rw [show o + (i + 1) * 3 = o + 3 + i * 3 by omega]; exact h5⟩
  ·intro h
   obtain ⟨cs, h1, h2⟩ := h 0 y (by simp)
   refine ⟨cs, h1, by simpa using h2, rdExL_iff.2 fun i x hx => ?_⟩
   obtain ⟨cs', h4, h5⟩ := h (i + 1) x (by simpa using hx)
   exact ⟨cs', h4, by rw [show o + 3 + i * 3 = o + (i + 1) * 3 by omega]; exact h5⟩

theorem rdExs_iff {w : World} : ∀ {xs : List Ex} {v : Value}, RdExs w xs v ↔ RdSl w 3 (RdEx w) xs v
 | [], v => by
  rw [RdExs]
  constructor
  ·rintro (h | ⟨b, o, cap, h1, h2⟩)
   ·exact .inl ⟨h, rfl⟩
   ·exact .inr ⟨b, o, cap, by simpa using h1, by simp, h2, fun i x h => by simp at h⟩
  ·rintro (h | ⟨b, o, cap, h1, _, h2, _⟩)
   ·exact .inl h.1
   ·exact .inr ⟨b, o, cap, by simpa using h1, h2⟩
 | x :: xs, v => by
  rw [RdExs]
  constructor
  ·rintro ⟨b, o, cap, cs, h1, h2, h3, h4, h5, h6⟩
   refine .inr ⟨b, o, cap, by simpa using h1, by simpa using h2, h3, ?_⟩
   have := (rdExL_iff (xs := x :: xs) (o := o)).1 (by rw [RdExL]; exact ⟨cs, h4, h5, h6⟩)
   exact this
  ·rintro (⟨_, h⟩ | ⟨b, o, cap, h1, h2, h3, h4⟩)
   ·cases h
   ·have := (rdExL_iff (xs := x :: xs) (o := o)).2 h4
    rw [RdExL] at this
    obtain ⟨cs, h5, h6, h7⟩ := this
    exact ⟨b, o, cap, cs, by simpa using h1, by simpa using h2, h3, h5, h6, h7⟩

theorem RdEx.cells {w w' : World} (hb : Cells w w') : ∀ x : Ex, ∀ cs, RdEx w x cs → RdEx w' x cs := by
 intro x
 induction x using Ex.ind with
 | h k s kids ih =>
  intro cs h
  rw [RdEx] at h ⊢
  obtain ⟨sv, h1, h2⟩ := h
  exact ⟨sv, h1, rdExs_iff.2 ((rdExs_iff.1 h2).impc hb (fun x cs hx => ih x hx cs))⟩
theorem RdEx.below {w w' : World} (hb : Below w.heap.size w w') (x : Ex) (cs : List Value) (h : RdEx w x cs) : RdEx w' x cs := RdEx.cells (.of hb) x cs h

theorem RdExs.shape {w : World} {xs : List Ex} {v : Value} (h : RdExs w xs v) : ∃ p cap, v = .slice p xs.length cap ∧ xs.length ≤ cap ∧ cap ≤ maxLen := (rdExs_iff.1 h).shape

theorem RdExs.at {w : World} {xs : List Ex} {p : Option Addr} {n cap : Nat} (h : RdExs w xs (.slice p n cap)) {k : Nat} (hk : k < xs.length) :
  ∃ b o kd s kids sv, p = some ⟨b, o, none⟩ ∧ xs[k] = .mk kd s kids ∧ RdExs w kids sv ∧
   w.cell? ⟨b, o + k * 3, none⟩ = some (.int .i64 kd) ∧ w.cell? ⟨b, o + k * 3 + 1, none⟩ = some (.string s) ∧ w.cell? ⟨b, o + k * 3 + 2, none⟩ = some sv := by
 obtain ⟨b, o, cs, hp, hr, hc⟩ := (rdExs_iff.1 h).at hk
 rcases hx : xs[k] with ⟨kd, s, kids⟩
 rw [hx, RdEx] at hr
 obtain ⟨sv, rfl, hr⟩ := hr
 exact ⟨b, o, kd, s, kids, sv, hp, rfl, hr, hc.1, hc.2.1, hc.2.2.1⟩

def all2 {α β : Type} (f : α → β → Bool) : List α → List β → Bool
 | [], [] => true
 | x :: xs, y :: ys => f x y && all2 f xs ys
 | _, _ => false

mutual
def exSame : Ex → Ex → Bool
 | .mk k s l, .mk k' s' l' => (k == k') && (s.toList == s'.toList) && exsSame l l'
def exsSame : List Ex → List Ex → Bool
 | [], [] => true
 | x :: xs, y :: ys => exSame x y && exsSame xs ys
 | _, _ => false
end

structure Val where
 kind : Int
 num : Int
 text : ByteArray
structure Opd where
 kind : Int
 name : ByteArray
 key : ByteArray
 val : Val
structure Cnd where
 op : Int
 left : Opd
 right : Opd
structure Pat where
 frm : ByteArray
 to : ByteArray
 path : Bool
 label : ByteArray
 name : ByteArray
 expr : Ex
structure Qry where
 pats : List Pat
 conds : List Cnd
 ret : List Opd
 range : Int
 slide : Int

def Val.cells (x : Val) : List Value := [.int .i64 x.kind, .int .i64 x.num, .string x.text]
def Opd.cells (x : Opd) : List Value := [.int .i64 x.kind, .string x.name, .string x.key, .int .i64 x.val.kind, .int .i64 x.val.num, .string x.val.text]
def Cnd.cells (x : Cnd) : List Value := [.int .i64 x.op, .int .i64 x.left.kind, .string x.left.name, .string x.left.key, .int .i64 x.left.val.kind, .int .i64 x.left.val.num, .string x.left.val.text,
 .int .i64 x.right.kind, .string x.right.name, .string x.right.key, .int .i64 x.right.val.kind, .int .i64 x.right.val.num, .string x.right.val.text]

def seqb (s t : ByteArray) : Bool := s.toList == t.toList

def RdPat (w : World) (p : Pat) (cs : List Value) : Prop :=
 ∃ k s l sv, p.expr = .mk k s l ∧ RdExs w l sv ∧ cs = [.string p.frm, .string p.to, .bool p.path, .string p.label, .string p.name, .int .i64 k, .string s, sv]
def RdOpd (p : Opd) (cs : List Value) : Prop := cs = p.cells
def RdCnd (p : Cnd) (cs : List Value) : Prop := cs = p.cells
def RdStr (p : ByteArray) (cs : List Value) : Prop := cs = [.string p]
def RdInt (p : Int) (cs : List Value) : Prop := cs = [.int .i64 p]

abbrev RdPats (w : World) (xs : List Pat) (v : Value) : Prop := RdSl w 8 (RdPat w) xs v
abbrev RdOpds (w : World) (xs : List Opd) (v : Value) : Prop := RdSl w 6 RdOpd xs v
abbrev RdCnds (w : World) (xs : List Cnd) (v : Value) : Prop := RdSl w 13 RdCnd xs v
abbrev RdStrs (w : World) (xs : List ByteArray) (v : Value) : Prop := RdSl w 1 RdStr xs v
abbrev RdInts (w : World) (xs : List Int) (v : Value) : Prop := RdSl w 1 RdInt xs v

def RdQry (w : World) (q : Qry) (cs : List Value) : Prop :=
 ∃ v1 v2 v3, RdPats w q.pats v1 ∧ RdCnds w q.conds v2 ∧ RdOpds w q.ret v3 ∧ cs = [v1, v2, v3, .int .i64 q.range, .int .i64 q.slide]

/-! names -/
def ltrI (c : Int) : Bool := decide (97 ≤ c) && decide (c ≤ 122)
def signI (c : Int) : Bool := ltrI c || c == 95 || (decide (48 ≤ c) && decide (c ≤ 57))
def vertB (s : ByteArray) : Bool := s.data.toList.all (fun b => signI b.toNat) && decide (1 ≤ s.size) && decide (s.size ≤ 20)

theorem allBytes_iff (f : UInt8 → Bool) (s : ByteArray) : s.data.toList.all f = true ↔ ∀ j (h : j < s.size), f s[j] = true := by
 rw [List.all_eq_true]
 constructor
 ·intro h j hj
  exact h _ (by simp [ByteArray.getElem_eq_getElem_data])
 ·intro h x hx
  obtain ⟨j, hj, rfl⟩ := List.getElem_of_mem hx
  exact h j (by simpa using hj)

theorem vertB_no {s : ByteArray} {j : Nat} (h : j < s.size) (hf : signI s[j].toNat = false) : vertB s = false := by
 have : s.data.toList.all (fun b => signI b.toNat) = false := by
  rw [← Bool.not_eq_true, allBytes_iff]; exact fun hh => by rw [hh j h] at hf; cases hf
 simp [vertB, this]
theorem vertB_yes {s : ByteArray} (h : ∀ j (h : j < s.size), signI s[j].toNat = true) : vertB s = (decide (1 ≤ s.size) && decide (s.size ≤ 20)) := by
 rw [vertB, (allBytes_iff _ s).2 h, Bool.true_and]

theorem toList_isEmpty (s : ByteArray) : s.toList.isEmpty = decide (s.size = 0) := by
 rw [ByteArray.toList_eq]
 obtain ⟨⟨l⟩⟩ := s
 cases l <;> simp [ByteArray.size]

def words : List ByteArray := [⟨#[97, 115]⟩, ⟨#[109, 97, 116, 99, 104]⟩, ⟨#[119, 104, 101, 114, 101]⟩, ⟨#[97, 110, 100]⟩, ⟨#[114, 101, 116, 117, 114, 110]⟩, ⟨#[114, 97, 110, 103, 101]⟩, ⟨#[115, 108, 105, 100, 101]⟩]

theorem rdSl_block {α : Type} {W : World} {n : Nat} {C : Array Value} {t : TypeId} {fz : Nat × Nat} (h : W.heap[n]? = some (.cells C t fz)) {sz : Nat} {rd : α → List Value → Prop} {xs : List α}
  (f : α → List Value) (hf : ∀ x, x ∈ xs → rd x (f x)) (hsz : ∀ x, x ∈ xs → (f x).length = sz) (hC : C.toList = xs.flatMap f) {m cap : Nat} (hm : m = xs.length) (hc : m ≤ cap) (hc2 : cap ≤ maxLen) :
  RdSl W sz rd xs (.slice (some ⟨n, 0, none⟩) m cap) := by
 subst hm
 refine .inr ⟨n, 0, cap, rfl, hc, hc2, fun i x hx => ⟨f x, hf x (List.mem_of_getElem? hx), ?_⟩⟩
 have key : ∀ (l : List α) (i : Nat) (x : α), (∀ x, x ∈ l → (f x).length = sz) → l[i]? = some x → ∀ j v, (f x)[j]? = some v → (l.flatMap f)[i * sz + j]? = some v := by
  intro l
  induction l with
  | nil => intro i x _ h; simp at h
  | cons y l ih =>
   intro i x hl hx j v hj
   rw [List.flatMap_cons]
   cases i with
   | zero =>
    simp at hx; subst hx
    rw [List.getElem?_append_left (by rw [Nat.zero_mul, Nat.zero_add]; exact (List.getElem?_eq_some_iff.1 hj).1)]
    simpa using hj
   | succ i =>
    have hy := hl y (by simp)
    rw [List.getElem?_append_right (by rw [hy, Nat.succ_mul]; omega), hy, show (i + 1) * sz + j - sz = i * sz + j by rw [Nat.succ_mul]; omega]
    exact ih i x (fun x hx => hl x (by simp [hx])) (by simpa using hx) j v hj
 have hcell : ∀ j v, (f x)[j]? = some v → W.cell? ⟨n, 0 + i * sz + j, none⟩ = some v := by
  intro j v hj
  have := key xs i x hsz hx j v hj
  rw [← hC] at this
  simp only [World.cell?, h]
  simpa using this
 generalize 0 + i * sz = o at hcell
 clear hf hsz hC key hx
 generalize f x = vs at hcell
 induction vs generalizing o with
 | nil => trivial
 | cons y vs ih => exact ⟨by simpa using hcell 0 y rfl, ih (o + 1) (fun j v hj => by rw [show o + 1 + j = o + (j + 1) by omega]; exact hcell (j + 1) v (by simpa using hj))⟩

theorem heap_new (W : World) (o : Obj) : (W.alloc o).heap[W.heap.size]? = some o := by
 show (W.heap.push o)[W.heap.size]? = some o
 simp

def firstI (s : ByteArray) : Int := if h : 0 < s.size then (s[0]'h).toNat else 0
def freeB (s : ByteArray) : Bool := vertB s && ltrI (firstI s) && !words.any (fun x => seqb s x)
theorem vertB_size {s : ByteArray} (h : vertB s = true) : 0 < s.size ∧ s.size ≤ 20 := by
 simp only [vertB, Bool.and_eq_true, decide_eq_true_eq] at h
 omega

/-! values, parts of expressions -/
def okByte (n : Nat) : Bool := !(decide (n < 32) || decide (126 < n) || n == 34 || n == 92)
def plainB (s : ByteArray) : Bool := s.data.toList.all (fun b => okByte b.toNat)
def noB (s : ByteArray) : Bool := decide (s.size = 0)
def maxNumI : Int := 1099511627776
def valRight (v : Val) : Bool := if v.kind == 1 then noB v.text && decide (-maxNumI ≤ v.num) && decide (v.num ≤ maxNumI) else
 if v.kind == 2 then v.num == 0 && decide (v.text.size ≤ 40) && plainB v.text else false
def partB (k : Int) (s : ByteArray) (n : Nat) : Bool := if k == 1 then decide (n = 0) && freeB s else
 if k == 2 || k == 3 then decide (1 < n) && noB s else
 if k == 4 || k == 5 || k == 6 then decide (n = 1) && noB s else false

/-! well-formed data: texts no longer than they may be -/
def okT (s : ByteArray) : Prop := s.size ≤ 140737488355328
theorem okT.len {s : ByteArray} (h : okT s) : s.size ≤ maxLen := by unfold okT at h; unfold maxLen; omega
mutual
def Ex.ok : Ex → Prop
 | .mk _ s l => okT s ∧ exsOk l
def exsOk : List Ex → Prop
 | [] => True
 | x :: xs => x.ok ∧ exsOk xs
end
theorem exsOk_iff : ∀ {l : List Ex}, exsOk l ↔ ∀ x, x ∈ l → x.ok
 | [] => by simp [exsOk]
 | x :: xs => by simp [exsOk, exsOk_iff (l := xs)]
def Val.ok (v : Val) : Prop := okT v.text
def Opd.ok (o : Opd) : Prop := okT o.name ∧ okT o.key ∧ o.val.ok
def Cnd.ok (c : Cnd) : Prop := c.left.ok ∧ c.right.ok
def Pat.ok (p : Pat) : Prop := okT p.frm ∧ okT p.to ∧ okT p.label ∧ okT p.name ∧ p.expr.ok
def Qry.ok (q : Qry) : Prop := (∀ p, p ∈ q.pats → p.ok) ∧ (∀ c, c ∈ q.conds → c.ok) ∧ (∀ o, o ∈ q.ret → o.ok)
def Qry.small (q : Qry) : Prop := q.pats.length ≤ 140737488355328 ∧ q.conds.length ≤ 140737488355328 ∧ q.ret.length ≤ 140737488355328

/-! an expression's parts, it first -/
mutual
def exParts : Ex → List Ex
 | .mk k s l => .mk k s l :: exsParts l
def exsParts : List Ex → List Ex
 | [] => []
 | x :: xs => exParts x ++ exsParts xs
end
theorem exsParts_eq : ∀ l : List Ex, exsParts l = l.flatMap exParts
 | [] => rfl
 | x :: xs => by rw [exsParts, exsParts_eq xs, List.flatMap_cons]

theorem exsParts_append (a b : List Ex) : exsParts (a ++ b) = exsParts a ++ exsParts b := by simp [exsParts_eq]
theorem exsParts_take_le (l : List Ex) (k : Nat) : (exsParts (l.take k)).length ≤ (exsParts l).length := by
 have := congrArg List.length (exsParts_append (l.take k) (l.drop k))
 rw [List.take_append_drop, List.length_append] at this
 omega
theorem exsParts_take_succ {l : List Ex} {k : Nat} (h : k < l.length) : exsParts (l.take (k + 1)) = exsParts (l.take k) ++ exParts l[k] := by
 rw [List.take_succ_eq_append_getElem h, exsParts_append]; simp [exsParts]

def Ex.part : Ex → Bool | .mk k s l => partB k s l.length
def exRight (x : Ex) : Bool := decide ((exParts x).length ≤ 24) && (exParts x).all Ex.part

def Ex.sig : Ex → Int × ByteArray × Nat
 | .mk k s l => (k, s, l.length)

def partS (s : Int × ByteArray × Nat) : Bool := partB s.1 s.2.1 s.2.2
theorem part_sig (x : Ex) : x.part = partS x.sig := by obtain ⟨k, s, l⟩ := x; rfl
theorem exRight_sig (x : Ex) : exRight x = (decide (((exParts x).map Ex.sig).length ≤ 24) && ((exParts x).map Ex.sig).all partS) := by
 rw [exRight, List.length_map, List.all_map]
 congr 2
 funext y
 exact part_sig y

structure XC where
 kind : Int
 label : ByteArray
 ptr : Option Addr
 len : Nat
 cap : Nat
 hl : label.size ≤ maxLen
 hn : len ≤ maxLen
def XC.val (x : XC) : Value := .agg #[.int .i64 x.kind, .string x.label, .slice x.ptr x.len x.cap]
def XC.sig (x : XC) : Int × ByteArray × Nat := (x.kind, x.label, x.len)

/-! operands, patterns, conditions, queries: are they right? -/
def Val.none (v : Val) : Bool := v.kind == 0 && v.num == 0 && noB v.text
def opdRight (o : Opd) : Bool := if o.kind == 1 then freeB o.name && noB o.key && o.val.none else
 if o.kind == 2 then freeB o.name && freeB o.key && o.val.none else
 if o.kind == 3 then valRight o.val && noB o.name && noB o.key else false
def patRight (p : Pat) : Bool := freeB p.frm && freeB p.to && if p.path then noB p.label && noB p.name && exRight p.expr else
 freeB p.label && (noB p.name || freeB p.name) && exSame p.expr (.mk 0 ⟨#[]⟩ [])
def betw (n a b : Int) : Bool := decide (a ≤ n) && decide (n ≤ b)
def cndRight (c : Cnd) : Bool := betw c.op 1 6 && opdRight c.left && opdRight c.right
def tldRight (o : Opd) : Bool := o.kind != 3 && opdRight o
def qryRight (q : Qry) : Bool := betw q.pats.length 1 4 && decide (q.conds.length ≤ 6) && betw q.ret.length 1 4 && betw q.range 1 1048576 && betw q.slide 1 1048576 &&
 q.pats.all patRight && q.conds.all cndRight && q.ret.all tldRight

/-! the size of a query, as far as 401: the statements' own guard -/
mutual
def szE : Ex → Nat → Nat
 | .mk _ _ l, deep => if 60 < deep then 401 else szL l (deep + 1) 1
def szL : List Ex → Nat → Nat → Nat
 | [], _, n => n
 | x :: xs, deep, n => if n ≤ 400 then szL xs deep (n + szE x deep) else n
end

end Go.Proofs.YtfflpdekojlnmaaDoor

namespace Go.Proofs.YtfflpdekojlnmaaDoor
open Go.RowKit

theorem cellsAt_get {w : World} {b : Nat} : ∀ {vs : List Value} {o : Nat}, cellsAt w b o vs → ∀ j v, vs[j]? = some v → w.cell? ⟨b, o + j, none⟩ = some v
 | [], _, _, j, v, h => by simp at h
 | x :: vs, o, hc, j, v, h => by
  cases j with
  | zero => simp at h; subst h; simpa using hc.1
  | succ j =>
   have := cellsAt_get hc.2 j v (by simpa using h)
   rw [show o + (j + 1) = o + 1 + j by omega]; exact this
theorem cell_of_block2 {w : World} {k : Nat} {C : Array Value} {T : TypeId} {fz : Nat × Nat} (h : w.heap[k]? = some (.cells C T fz)) (o : Nat) : w.cell? ⟨k, o, none⟩ = C[o]? := by simp [World.cell?, h]

theorem rdStrs_at {w : World} {xs : List ByteArray} {p : Option Addr} {n cap : Nat} (h : RdStrs w xs (.slice p n cap)) {k : Nat} (hk : k < xs.length) :
  ∃ b o, p = some ⟨b, o, none⟩ ∧ w.cell? ⟨b, o + k, none⟩ = some (.string xs[k]) := by
 obtain ⟨b, o, cs, hp, hr, hc⟩ := RdSl.at h hk
 subst hr
 rw [Nat.mul_one] at hc; replace hc := cellsAt_get hc
 exact ⟨b, o, hp, by simpa using hc 0 _ rfl⟩

end Go.Proofs.YtfflpdekojlnmaaDoor
