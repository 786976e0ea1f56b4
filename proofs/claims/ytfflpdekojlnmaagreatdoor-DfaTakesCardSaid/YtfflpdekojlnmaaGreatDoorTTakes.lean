/- check: all operands of a query, one behind the other (an iterator). -/
import Derived.Test.YtfflpdekojlnmaaGreatDoorTAbsZ
import Derived.Test.YtfflpdekojlnmaaGreatDoorTOnceC
import Derived.Test.YtfflpdekojlnmaaGreatDoorTTakesP
import Derived.Test.YtfflpdekojlnmaaGreatDoorTWalk
import Derived.Test.YtfflpdekojlnmaaGreatDoorTOpenX
import Derived.Test.YtfflpdekojlnmaaGreatDoorTValue
import Derived.Test.YtfflpdekojlnmaaGreatDoorTAbsX
set_option linter.unusedSimpArgs false
set_option linter.unusedVariables false
namespace Go.Proofs.YtfflpdekojlnmaaGreatDoor
open Go.RowKit

def opsC (q : Qry) (i : Nat) : List (List AV) := ((q.conds.drop i).flatMap (fun c => [c.left, c.right]) ++ q.ret).map (fun o => [.agg (encO o)])

/-! ### a map whose keys are texts -/
def mrows (l : List (ByteArray × Int)) : List (List AV) := l.map (fun p => [.v (.string p.1), .v (.int .i64 p.2)])
end Go.Proofs.YtfflpdekojlnmaaGreatDoor

namespace Go.Proofs.YtfflpdekojlnmaaGreatDoor
open Go.RowKit

end Go.Proofs.YtfflpdekojlnmaaGreatDoor

namespace Go.Proofs.YtfflpdekojlnmaaGreatDoor
open Go.RowKit

end Go.Proofs.YtfflpdekojlnmaaGreatDoor

namespace Go.Proofs.YtfflpdekojlnmaaGreatDoor
open Go.RowKit

@[go_sem] theorem wf_mrows (n : Nat) (l : List (ByteArray × Int)) : wfR n (mrows l) = true := wfR_map _ (fun _ => rfl) l
def nmR : Option (List ByteArray) → AV
 | none => .tup [.v (.map none), .v (.bool false)]
 | some _ => .tup [.vec 1 0, .v (.bool true)]

end Go.Proofs.YtfflpdekojlnmaaGreatDoor

namespace Go.Proofs.YtfflpdekojlnmaaGreatDoor
open Go.RowKit

end Go.Proofs.YtfflpdekojlnmaaGreatDoor

namespace Go.Proofs.YtfflpdekojlnmaaGreatDoor
open Go.RowKit

section
variable {P : Program}
theorem CallE.to1 {f : FuncId} {args : List AV} {r r' : AV} {o' : List (Option AObj)} (h : CallE P f args [] r o') (n : Nat) {p : Prop} (hz : aFrz o' n r = some (p, r')) (hp : p) (hw : wfL 0 args = true) (hw' : r'.wf 0 = true) : Call1 P f args r' := by
 refine ⟨⟨hw, hw'⟩, h.1, fun D nu w vargs hro hra => (h.2 D nu w vargs hro hra).mono ?_⟩
 rintro e w' ⟨v, nu', o'', r'', rfl, hm, hro', hx, rfl, rfl⟩
 exact ⟨v, nu', [], r', rfl, ⟨hm.os, hm.tape, hm.output, hm.size, fun id len hh => by obtain ⟨ob, h1, _⟩ := hh; simp at h1, fun b hb hno => ⟨(hm.keep b hb (owned_nil _ _)).1, owned_nil _ _⟩⟩, (.nil _ _ _ hro'.up (hro'.gl.nil (fun _ _ h => h))), (frz_both hro' n).1 _ _ _ _ hz hp hx, rfl, rfl⟩
end

def encN (l : List Nat) : List (List AV) := l.map (fun k : Nat => [.v (.int .i64 (k : Int))])

end Go.Proofs.YtfflpdekojlnmaaGreatDoor

namespace Go.Proofs.YtfflpdekojlnmaaGreatDoor
open Go.RowKit

attribute [go_sem] Value.oneCell'
def mk1 (i : Nat) : AV := .v (.int .i64 ((8000024 + i : Nat) : Int))
def markE (i : Nat) : List AV := [mk1 i, .v (.string ⟨#[]⟩), .v (.slice none 0 0)]
def mksN (f : Nat → List AV) : Nat → List (List AV)
 | 0 => []
 | n + 1 => mksN f n ++ [f n]
@[go_sem] theorem mksN_len (f : Nat → List AV) : ∀ n, (mksN f n).length = n
 | 0 => rfl
 | n + 1 => by rw [mksN, List.length_append, mksN_len f n]; rfl
def marksOf (f : Nat → List AV) : List (List AV) := mksN f 12
mutual
def lentE : Ex → List AV
 | .mk k s l => [.v (.int .i64 k), .v (.string s), .slc 3 (lentEs l ++ marksOf markE) l.length]
def lentEs : List Ex → List (List AV)
 | [] => []
 | x :: xs => lentE x :: lentEs xs
end
theorem lentEs_eq : ∀ l : List Ex, lentEs l = l.map lentE
 | [] => rfl
 | x :: xs => by rw [lentEs, lentEs_eq xs, List.map_cons]
theorem wfR_app (n : Nat) (a b : List (List AV)) : wfR n (a ++ b) = (wfR n a && wfR n b) := by
 induction a with
 | nil => simp [wfR]
 | cons x a ih => simp [wfR, ih, Bool.and_assoc]
theorem wf_mksN (n : Nat) (f : Nat → List AV) (h : ∀ i, wfL n (f i) = true) : ∀ k, wfR n (mksN f k) = true
 | 0 => rfl
 | k + 1 => by simp [mksN, wfR_app, wf_mksN n f h k, wfR, h]
theorem wf_marks (n : Nat) (f : Nat → List AV) (h : ∀ i, wfL n (f i) = true) : wfR n (marksOf f) = true := wf_mksN n f h 12
@[go_sem] theorem marks_len (f : Nat → List AV) : (marksOf f).length = 12 := mksN_len f 12
theorem wf_markE (n : Nat) (i : Nat) : wfL n (markE i) = true := rfl
theorem wf_lentE1 (n : Nat) (x : Ex) : wfL n (lentE x) = true := by
 induction x using Ex.ind with
 | h k s l ih =>
  rw [lentE, lentEs_eq]
  simp only [wfL, AV.wf, Bool.and_true, Bool.true_and, wfR_app, wf_marks n _ (wf_markE n)]
  exact wfR_of (fun r hr => by obtain ⟨x, hx, rfl⟩ := List.mem_map.1 hr; exact ih x hx)
theorem wf_lentE (n : Nat) (l : List Ex) : wfR n (l.map lentE) = true := wfR_map _ (wf_lentE1 n) l
attribute [go_sem] wf_lentE1 wf_lentE wfR_app
@[go_sem] theorem wf_mksE (n k : Nat) : wfR n (mksN markE k) = true := wf_mksN n _ (wf_markE n) k
@[go_sem] theorem wf_marksE (n : Nat) : wfR n (marksOf markE) = true := wf_marks n _ (wf_markE n)

def Ex.lens (n : Nat) (x : Ex) : Prop := ∀ y, y ∈ exParts x → y.kids.length ≤ n
end Go.Proofs.YtfflpdekojlnmaaGreatDoor

namespace Go.Proofs.YtfflpdekojlnmaaGreatDoor
open Go.RowKit

def markP (i : Nat) : List AV := [.v (.string ⟨#[]⟩), .v (.string ⟨#[]⟩), .v (.bool false), .v (.string ⟨#[109]⟩), .v (.string ⟨#[]⟩), mk1 i, .v (.string ⟨#[]⟩), .v (.slice none 0 0)]
def markC (i : Nat) : List AV := [mk1 i, .v (.int .i64 0), .v (.string ⟨#[]⟩), .v (.string ⟨#[]⟩), .v (.int .i64 0), .v (.int .i64 0), .v (.string ⟨#[]⟩), .v (.int .i64 0), .v (.string ⟨#[]⟩), .v (.string ⟨#[]⟩), .v (.int .i64 0), .v (.int .i64 0), .v (.string ⟨#[]⟩)]
def markO (i : Nat) : List AV := [.v (.int .i64 0), .v (.string ⟨#[]⟩), .v (.string ⟨#[]⟩), .v (.int .i64 0), mk1 i, .v (.string ⟨#[]⟩)]
def lentP (p : Pat) : List AV := [.v (.string p.frm), .v (.string p.to), .v (.bool p.path), .v (.string p.label), .v (.string p.name), .v (.int .i64 p.expr.kind), .v (.string p.expr.label), .slc 3 (p.expr.kids.map lentE ++ marksOf markE) p.expr.kids.length]
theorem wf_lentP1 (n : Nat) (p : Pat) : wfL n (lentP p) = true := by simp only [lentP, wfL, AV.wf, wfR_app, wf_lentE, wf_marksE, Bool.and_true, Bool.and_self]
@[go_sem] theorem wf_lentP (n : Nat) (l : List Pat) : wfR n (l.map lentP) = true := wfR_map _ (wf_lentP1 n) l
@[go_sem] theorem wf_mksP (n k : Nat) : wfR n (mksN markP k) = true := wf_mksN n _ (fun _ => rfl) k
@[go_sem] theorem wf_marksP (n : Nat) : wfR n (marksOf markP) = true := wf_mksN n _ (fun _ => rfl) 12
@[go_sem] theorem wf_mksC (n k : Nat) : wfR n (mksN markC k) = true := wf_mksN n _ (fun _ => rfl) k
@[go_sem] theorem wf_marksC (n : Nat) : wfR n (marksOf markC) = true := wf_mksN n _ (fun _ => rfl) 12
@[go_sem] theorem wf_mksO (n k : Nat) : wfR n (mksN markO k) = true := wf_mksN n _ (fun _ => rfl) k
@[go_sem] theorem wf_marksO (n : Nat) : wfR n (marksOf markO) = true := wf_mksN n _ (fun _ => rfl) 12

def Qry.lens (n : Nat) (q : Qry) : Prop := q.pats.length ≤ n ∧ q.conds.length ≤ n ∧ q.ret.length ≤ n ∧ ∀ p, p ∈ q.pats → p.expr.lens n

end Go.Proofs.YtfflpdekojlnmaaGreatDoor

namespace Go.Proofs.YtfflpdekojlnmaaGreatDoor
open Go.RowKit

inductive Le : AV → AV → Prop
 | refl (a : AV) : Le a a
 | wit (p : (Nat → Prop) → World → Value → Prop) (a b : AV) : Le a b → Le (.wit p a) b
 | nil (z : Nat) : Le (.v (.slice none 0 0)) (.slc z [] 0)
 | agg (cs ds : List AV) : cs.length = ds.length → (∀ (i : Nat) c d, cs[i]? = some c → ds[i]? = some d → Le c d) → Le (.agg cs) (.agg ds)
 | slc (z : Nat) (rows rows' : List (List AV)) (len : Nat) : len ≤ rows'.length → rows'.length ≤ rows.length → (∀ (i : Nat) r r', rows[i]? = some r → rows'[i]? = some r' → r.length = r'.length) →
   (∀ (i j : Nat) r r' c c', rows[i]? = some r → rows'[i]? = some r' → r[j]? = some c → r'[j]? = some c' → Le c c') → Le (.slc z rows len) (.slc z rows' len)

section
variable {D : Nat → Prop} {nu : Nat → Nat → Value} {o : List (Option AObj)} {w : World} {P : Program}
theorem RA.le {a b : AV} (h : Le a b) : ∀ {x : Value}, RA D nu o w a x → RA D nu o w b x := by
 induction h with
 | refl a => exact fun h => h
 | wit p a b _ ih => intro x h; cases h with | wit _ _ _ S h0 h1 hc h2 h3 => exact ih h3
 | nil z => intro x h; obtain rfl := h.v_eq; exact .slcNil z
 | agg cs ds hl _ ih =>
  intro x h
  cases h with
  | agg _ xs h1 h2 h3 =>
   refine .agg ds xs (by omega) (fun i d y hd hy => ?_) h3
   have hi : i < cs.length := by have := (List.getElem?_eq_some_iff.1 hd).1; omega
   exact ih i cs[i] d (List.getElem?_eq_getElem hi) hd (h2 i _ y (List.getElem?_eq_getElem hi) hy)
 | slc z rows rows' len h1 h2 h3 _ ih =>
  intro x h
  have up : ∀ (i : Nat) r', rows'[i]? = some r' → ∃ r, rows[i]? = some r := fun i r' hr => ⟨_, List.getElem?_eq_getElem (by have := (List.getElem?_eq_some_iff.1 hr).1; omega)⟩
  have upj : ∀ (i j : Nat) r' c', rows'[i]? = some r' → r'[j]? = some c' → ∃ r c, rows[i]? = some r ∧ r[j]? = some c := fun i j r' c' hr hc => by
   obtain ⟨r, hr'⟩ := up i r' hr
   exact ⟨r, _, hr', List.getElem?_eq_getElem (by have := h3 i r r' hr' hr; have := (List.getElem?_eq_some_iff.1 hc).1; omega)⟩
  cases h with
  | slcNil =>
   have : rows' = [] := List.eq_nil_of_length_eq_zero (by simpa using h2)
   subst this; exact .slcNil z
  | slcOdd _ a =>
   have : rows' = [] := List.eq_nil_of_length_eq_zero (by simpa using h2)
   subst this; exact .slcOdd z a
  | slc _ _ _ b off cap f k1 k2 k3 k4 k5 k6 k7 k8 =>
   refine .slc z rows' len b off cap f h1 (by omega) k3 (fun hne => k4 (fun e => hne (by subst e; exact List.eq_nil_of_length_eq_zero (by simpa using h2)))) (fun i r' hr => ?_) (fun i j r' c' hr hc => ?_) (fun i j r' c' hr hc => ?_) (fun i j r' c' hr hc => ?_)
   ·obtain ⟨r, hr'⟩ := up i r' hr
    rw [← h3 i r r' hr' hr]; exact k5 i r hr'
   ·obtain ⟨r, c, q1, q2⟩ := upj i j r' c' hr hc
    exact k6 i j r c q1 q2
   ·obtain ⟨r, c, q1, q2⟩ := upj i j r' c' hr hc
    exact ih i j r r' c c' q1 hr q2 hc (k7 i j r c q1 q2)
   ·obtain ⟨r, c, q1, q2⟩ := upj i j r' c' hr hc
    exact k8 i j r c q1 q2
def LeL (cs ds : List AV) : Prop := cs.length = ds.length ∧ ∀ (i : Nat) c d, cs[i]? = some c → ds[i]? = some d → Le c d
theorem LeL.nil : LeL [] [] := ⟨rfl, fun i c d h => by simp at h⟩
theorem LeL.cons {c d : AV} {cs ds : List AV} (h : Le c d) (k : LeL cs ds) : LeL (c :: cs) (d :: ds) := ⟨by simp [k.1], fun i x y hx hy => by
 cases i with
 | zero => cases hx; cases hy; exact h
 | succ i => exact k.2 i x y hx hy⟩
theorem LeL.agg {cs ds : List AV} (h : LeL cs ds) : Le (.agg cs) (.agg ds) := .agg cs ds h.1 h.2
theorem Le.rows {α : Type} {z : Nat} {f g : α → List AV} {xs : List α} {more : List (List AV)} (h : ∀ x, x ∈ xs → LeL (f x) (g x)) : Le (.slc z (xs.map f ++ more) xs.length) (.slc z (xs.map g) xs.length) := by
 have key : ∀ (i : Nat) r r', (xs.map f ++ more)[i]? = some r → (xs.map g)[i]? = some r' → LeL r r' := fun i r r' h1 h2 => by
  have hi : i < xs.length := by simpa using (List.getElem?_eq_some_iff.1 h2).1
  rw [List.getElem?_append_left (by simpa using hi)] at h1
  rw [List.getElem?_map, List.getElem?_eq_getElem hi] at h1 h2
  cases h1; cases h2
  exact h _ (List.getElem_mem hi)
 exact .slc z _ _ _ (by simp) (by simp) (fun i r r' h1 h2 => (key i r r' h1 h2).1) (fun i j r r' c c' h1 h2 h3 h4 => (key i r r' h1 h2).2 j c c' h3 h4)
theorem RAs.le {cs ds : List AV} {xs : Array Value} (h : LeL cs ds) (k : RAs D nu o w cs xs) : RAs D nu o w ds xs := ⟨by rw [← h.1]; exact k.len, fun i d x hd hx => by
 have hi : i < cs.length := by have := (List.getElem?_eq_some_iff.1 hd).1; have := h.1; omega
 exact (k.at' i cs[i] x (List.getElem?_eq_getElem hi) hx).le (h.2 i _ d (List.getElem?_eq_getElem hi) hd)⟩
theorem Call1.le {f : FuncId} {args args' : List AV} {r : AV} (h : Call1 P f args r) (hw : wfL 0 args' = true) (hl : LeL args' args) : Call1 P f args' r := h.args hw (fun _ _ _ _ k => k.le hl)
end

end Go.Proofs.YtfflpdekojlnmaaGreatDoor

namespace Go.Proofs.YtfflpdekojlnmaaGreatDoor
open Go.RowKit

section
variable {P : Program}
open Go.Sort in
theorem CallE.same {α : Type} [Inhabited α] {enc : α → Value} (hone : ∀ a, (enc a).oneCell' = true) {f : FuncId} {args : List AV} {T : TypeId} {d d' : List α} {o1 : List (Option AObj)} (hd : d'.length = d.length) (hc : callOk P f = true)
  (hcall : ∀ D nu w vargs cap blk, RO D nu (some ⟨T, 1, true, rowsV enc d⟩ :: o1) w → RAs D nu (some ⟨T, 1, true, rowsV enc d⟩ :: o1) w args vargs → Holds enc w blk 0 d.toArray → blk < w.heap.size → d.length ≤ cap → cap ≤ maxLen → Calls P f (#[.slice (some ⟨blk, 0, none⟩) d.length cap] ++ vargs) w (fun e w' => e = .returned (.tuple #[]) ∧ ∃ n os, w' = grow (putRow enc (Go.Sort.ahead w n) blk 0 d'.toArray) os))
  (hnil : d = [] → ∀ D nu w vargs, RO D nu (some ⟨T, 1, true, rowsV enc d⟩ :: o1) w → RAs D nu (some ⟨T, 1, true, rowsV enc d⟩ :: o1) w args vargs → Calls P f (#[.slice none 0 0] ++ vargs) w (fun e w' => e = .returned (.tuple #[]) ∧ Below w.heap.size w w')) :
  CallE P f (.vec 0 d.length :: args) (some ⟨T, 1, true, rowsV enc d⟩ :: o1) (.tup []) (some ⟨T, 1, true, rowsV enc d'⟩ :: o1) := by
 refine ⟨hc, fun D nu w vargs hro hra => ?_⟩
 have hlen : (rowsV enc d).length = d.length := by simp [rowsV]
 have hlen' : (rowsV enc d').length = d'.length := by simp [rowsV]
 obtain ⟨vl⟩ := vargs
 cases vl with
 | nil => have := hra.len; simp at this
 | cons x l =>
 have hx := hra.at' 0 _ x rfl (by simp)
 have hxs : RAs D nu (some ⟨T, 1, true, rowsV enc d⟩ :: o1) w args l.toArray := ⟨by have := hra.len; simp at this; simpa using this, fun i c y h1 h2 => hra.at' (i + 1) c y (by simpa using h1) (by simpa using h2)⟩
 have ev : (⟨x :: l⟩ : Array Value) = #[x] ++ l.toArray := by simp
 have hxq : x = nu 0 d.length := by
  cases hx with
  | vec => rfl
 have hob : (some ⟨T, 1, true, rowsV enc d⟩ :: o1)[0]? = some (some (⟨T, 1, true, rowsV enc d⟩ : AObj)) := rfl
 have tup0 : ∀ w', RA D nu (some ⟨T, 1, true, rowsV enc d'⟩ :: o1) w' (.tup []) (.tuple #[]) := fun w' => .tup _ _ rfl (fun i c x h _ => by simp at h)
 rw [ev, hxq]
 rcases hro.obj 0 _ hob with ⟨_, e2, e3⟩ | ⟨g, cur, hb⟩ | ⟨g, es, cl, hm⟩
 ·have hdn : d = [] := by simpa [rowsV] using e2
  have hdn' : d' = [] := List.eq_nil_of_length_eq_zero (by rw [hd, hdn]; rfl)
  have hn := hnil hdn D nu w l.toArray hro hxs
  have e4 : nu 0 d.length = .slice none 0 0 := by rw [hdn]; exact e3
  rw [e4]
  refine hn.mono ?_
  rintro e w' ⟨rfl, hbl⟩
  have e5 : (some ⟨T, 1, true, rowsV enc d'⟩ :: o1 : List (Option AObj)) = some ⟨T, 1, true, rowsV enc d⟩ :: o1 := by rw [hdn, hdn']
  refine ⟨_, nu, some ⟨T, 1, true, rowsV enc d'⟩ :: o1, _, rfl, ?_, ?_, tup0 w', rfl, rfl⟩
  ·rw [e5]; exact mono_below hbl
  ·rw [e5]; exact hro.below hbl
 ·obtain ⟨cap, h1, h2, h3, h4⟩ := hb.vec rfl
  have hlr : (AObj.mk T 1 true (rowsV enc d)).rows.length = d.length := hlen
  rw [hlr] at h1 h2
  have hlt : g < w.heap.size := (Array.getElem?_eq_some_iff.1 hb.blk).1
  rw [h1]
  refine (hcall D nu w l.toArray cap g hro hxs (holds_row hb rfl rfl) hlt h2 h3).mono ?_
  rintro e w' ⟨rfl, n, os, rfl⟩
  -- first the row, then what is new
  obtain ⟨hsame, hblk⟩ := put_heap (w := w) (enc := enc) (n := n) (d := d'.toArray) (os := #[]) hlt
  have hblk := hblk _ _ _ hb.blk
  rw [grow_empty] at hsame hblk
  have hsz : (putRow enc (Go.Sort.ahead w n) g 0 d'.toArray).heap.size = w.heap.size := by rw [size_putRow]; rfl
  have hh : (AObj.mk T 1 true (rowsV enc d)).hl = (AObj.mk T 1 true (rowsV enc d')).hl := by simp [AObj.hl, hlen, hlen', hd]
  have hne : ∀ b, b ≠ g → (putRow enc (Go.Sort.ahead w n) g 0 d'.toArray).heap[b]? = w.heap[b]? := fun b hbg => by
   rcases Nat.lt_or_ge b w.heap.size with q | q
   ·exact hsame b q hbg
   ·rw [Array.getElem?_eq_none (by omega), Array.getElem?_eq_none q]
  have hm := set_mono (nu := nu) (w := w) (w' := putRow enc (Go.Sort.ahead w n) g 0 d'.toArray) (ob' := ⟨T, 1, true, rowsV enc d'⟩) hob hh.symm hb.blkEq rfl rfl rfl hsz hne
  have row : ∀ (i : Nat) r, (rowsV enc d')[i]? = some r → ∃ hi : i < d'.length, r = [.v (enc d'[i])] := fun i r hi => by
   have hik := (List.getElem?_eq_some_iff.1 hi).1
   rw [hlen'] at hik
   exact ⟨hik, by simp [rowsV, hik] at hi; exact hi.symm⟩
  have cell : ∀ (i j : Nat) r c x, (rowsV enc d')[i]? = some r → r[j]? = some c → (putCells enc 0 d'.toArray cur)[i * 1 + j]? = some x → c = .v x ∧ x.oneCell' = true := fun i j r c x k1 k2 k3 => by
   obtain ⟨hi, rfl⟩ := row i r k1
   have hj : j = 0 := by have := (List.getElem?_eq_some_iff.1 k2).1; simp at this; exact this
   subst hj
   simp only [putCells, Nat.mul_one, Nat.add_zero, Array.getElem?_mapIdx] at k3
   cases hc : cur[i]? with
   | none => rw [hc] at k3; simp at k3
   | some y =>
    rw [hc] at k3
    simp only [Option.map_some, Option.some.injEq] at k3
    rw [if_pos ⟨Nat.zero_le _, by simpa using hi⟩, Nat.sub_zero, getElem!_pos d'.toArray i (by simpa using hi)] at k3
    simp only [List.getElem?_cons_zero, Option.some.injEq] at k2
    subst k3
    exact ⟨by rw [← k2]; simp, hone _⟩
  have hnew : ROb D nu (some ⟨T, 1, true, rowsV enc d'⟩ :: o1) (putRow enc (Go.Sort.ahead w n) g 0 d'.toArray) 0 ⟨T, 1, true, rowsV enc d'⟩ g (putCells enc 0 d'.toArray cur) := by
   refine ⟨hblk, hb.dom, (fun e => by cases e), fun _ => ⟨cap, ?_, ?_, h3, ?_⟩, Nat.zero_lt_one, fun i r hi => ?_, fun i j r c x k1 k2 k3 => ?_, fun i j r c x k1 k2 k3 => (cell i j r c x k1 k2 k3).2⟩
   ·show nu 0 (rowsV enc d').length = .slice (some ⟨g, 0, none⟩) (rowsV enc d').length cap
    rw [hlen', hd]; exact h1
   ·show (rowsV enc d').length ≤ cap
    rw [hlen', hd]; exact h2
   ·rw [← h4]; simp [putCells]
   ·obtain ⟨_, rfl⟩ := row i r hi; rfl
   ·rw [(cell i j r c x k1 k2 k3).1]; exact .v x
  have hr := set_RO hro hob hh.symm hb.blkEq hm hne (cur := putCells enc 0 d'.toArray cur) hnew
  have hb2 : Below (putRow enc (Go.Sort.ahead w n) g 0 d'.toArray).heap.size (putRow enc (Go.Sort.ahead w n) g 0 d'.toArray) (grow (putRow enc (Go.Sort.ahead w n) g 0 d'.toArray) os) := ⟨rfl, rfl, rfl, by simp, fun b hb => heap_grow_old _ _ hb⟩
  simp only [List.set_cons_zero] at hm hr
  exact ⟨_, nu, some ⟨T, 1, true, rowsV enc d'⟩ :: o1, _, rfl, hm.trans (mono_below hb2), hr.below hb2, tup0 _, rfl, rfl⟩
 ·have := hm.isV; cases this
end
end Go.Proofs.YtfflpdekojlnmaaGreatDoor
