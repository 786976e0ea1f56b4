/- Calls that see what is owned and leave it as it is; results that are new; own rows that are written over in place and cut. -/
import Derived.Test.YtfflpdekojlnmaaGreatDoorTAbsV
import Derived.Test.YtfflpdekojlnmaaGreatDoorTAbsW
import Derived.Sort.Grow
set_option linter.unusedSimpArgs false
set_option linter.unusedVariables false
namespace Go.Proofs.YtfflpdekojlnmaaGreatDoor
open Go.RowKit

section
variable {D : Nat → Prop} {nu : Nat → Nat → Value} {o : List (Option AObj)} {w : World} {P : Program}

def FrzS (o : List (Option AObj)) (a r : AV) : Prop := ∀ (D : Nat → Prop) (nu : Nat → Nat → Value) (w : World) (x : Value), RO D nu o w → RA D nu o w a x → RA D nu [] w r x
def FrzL (o : List (Option AObj)) : List AV → List AV → Prop
 | [], [] => True
 | a :: l, b :: m => FrzS o a b ∧ FrzL o l m
 | _, _ => False
theorem FrzS.of {a r : AV} (n : Nat) {p : Prop} (hz : aFrz o n a = some (p, r)) (hp : p) : FrzS o a r := fun _ _ _ x hro hra => (frz_both hro n).1 a x p r hz hp hra
theorem FrzL.at' : ∀ {l m : List AV}, FrzL o l m → l.length = m.length ∧ ∀ (i : Nat) a b, l[i]? = some a → m[i]? = some b → FrzS o a b
 | [], [], _ => ⟨rfl, fun i a b h => by simp at h⟩
 | a :: l, b :: m, h => by
  obtain ⟨h1, h2⟩ := FrzL.at' h.2
  refine ⟨by simp [h1], fun i x y k1 k2 => ?_⟩
  cases i with
  | zero => simp at k1 k2; subst k1; subst k2; exact h.1
  | succ i => exact h2 i x y (by simpa using k1) (by simpa using k2)

def CallN (P : Program) (f : FuncId) (args : List AV) (r : AV) : Prop := (wfL 0 args = true ∧ r.wf 0 = true) ∧ callOk P f = true ∧ ∀ D nu w vargs, RO D nu [] w → RAs D nu [] w args vargs → Calls P f vargs w (fun e w' => ∃ v, e = .returned v ∧ Below w.heap.size w w' ∧ RA (fun b => w.heap.size ≤ b) nu [] w' r v)
def AFzN (o : List (Option AObj)) (r0 r : AV) : Prop := ∀ (D : Nat → Prop) (nu : Nat → Nat → Value) (w : World) (x : Value), RO D nu o w → RA D nu o w r0 x → RA (owned nu o) nu [] w r x

/-! ### own rows of plain values, written over in place -/
open Go.Sort in
theorem put_heap {α : Type} [Inhabited α] {enc : α → Value} {n blk : Nat} {d : Array α} {os : Array Obj} (hlt : blk < w.heap.size) : (∀ b, b < w.heap.size → b ≠ blk → (grow (putRow enc (Go.Sort.ahead w n) blk 0 d) os).heap[b]? = w.heap[b]?) ∧
  ∀ cs T fr, w.heap[blk]? = some (.cells cs T fr) → (grow (putRow enc (Go.Sort.ahead w n) blk 0 d) os).heap[blk]? = some (.cells (putCells enc 0 d cs) T fr) := by
 refine ⟨fun b hb hne => ?_, fun cs T fr h => ?_⟩
 ·rw [heap_grow_old _ _ (by simpa using hb)]
  simp only [putRow, mapBlock, Go.Sort.heap_ahead, Array.getElem?_modify, if_neg (Ne.symm hne)]
 ·rw [heap_grow_old _ _ (by simpa using hlt)]
  simp only [putRow, mapBlock, Go.Sort.heap_ahead, Array.getElem?_modify, if_true, h, Option.map_some, onCells]
def rowsV {α : Type} (enc : α → Value) (l : List α) : List (List AV) := l.map (fun a => [.v (enc a)])
open Go.Sort in
theorem holds_row {α : Type} [Inhabited α] {enc : α → Value} {id : Nat} {ob : AObj} {g : Nat} {cur : Array Value} {d : List α} (h : ROb D nu o w id ob g cur) (hz : ob.z = 1) (hr : ob.rows = rowsV enc d) : Holds enc w g 0 d.toArray := fun j hj => by
 have hj' : j < d.length := by simpa using hj
 have h1 : ob.rows[j]? = some [.v (enc d[j])] := by rw [hr]; simp [rowsV, hj']
 have h2 := h.curLt h1 (j := 0) (by simp)
 rw [hz] at h2
 have h3 := h.cell j 0 _ _ _ h1 rfl (by rw [hz]; exact Array.getElem?_eq_getElem h2)
 refine ⟨?_, ?_⟩
 ·have e : w.cell? ⟨g, 0 + j, none⟩ = cur[0 + j]? := by simp [World.cell?, h.blk]
  rw [e, show 0 + j = j * 1 + 0 by omega, Array.getElem?_eq_getElem h2, h3.v_eq]
  simp [hj']
 ·simp [World.frozen?, h.blk]
open Go.Sort in
theorem row_turn {α : Type} [Inhabited α] {enc : α → Value} (hone : ∀ a, (enc a).oneCell' = true) (h : RO D nu o w) {id : Nat} {ob : AObj} (ho : o[id]? = some (some ob)) (hv : ob.isV = true) (hz : ob.z = 1) {d : List α} (hr : ob.rows = rowsV enc d) {blk cap : Nat} (hnu : nu id ob.rows.length = .slice (some ⟨blk, 0, none⟩) d.length cap)
  {n : Nat} {d' : Array α} (hd : d'.size = d.length) {os : Array Obj} {k : Nat} (hk : k ≤ d.length) :
  Mono nu o w (updN nu o.length (.slice (some ⟨blk, 0, none⟩) k cap)) (o.set id none ++ [some ⟨ob.T, 1, true, rowsV enc (d'.toList.take k)⟩]) (grow (putRow enc (Go.Sort.ahead w n) blk 0 d') os) ∧
   RO D (updN nu o.length (.slice (some ⟨blk, 0, none⟩) k cap)) (o.set id none ++ [some ⟨ob.T, 1, true, rowsV enc (d'.toList.take k)⟩]) (grow (putRow enc (Go.Sort.ahead w n) blk 0 d') os) := by
 have hlen : ob.rows.length = d.length := by rw [hr]; simp [rowsV]
 obtain ⟨cur, hb⟩ : ∃ cur, ROb D nu o w id ob blk cur := by
  rcases h.obj id ob ho with ⟨e1, e2, e3⟩ | ⟨g, cur, hb⟩ | ⟨g, es, cl, hm⟩
  ·rw [e2] at hnu; rw [List.length_nil, e3] at hnu; cases hnu
  ·obtain ⟨cap', h1, _⟩ := hb.vec hv
   rw [h1] at hnu
   simp only [Value.slice.injEq, Option.some.injEq, Addr.mk.injEq] at hnu
   obtain ⟨⟨rfl, _⟩, _⟩ := hnu
   exact ⟨cur, hb⟩
  ·have := hm.isV; rw [hv] at this; cases this
 have hlt : blk < w.heap.size := (Array.getElem?_eq_some_iff.1 hb.blk).1
 obtain ⟨hsame, hblk⟩ := put_heap (w := w) (enc := enc) (n := n) (d := d') (os := os) hlt
 have hblk := hblk _ _ _ hb.blk
 generalize hw' : grow (putRow enc (Go.Sort.ahead w n) blk 0 d') os = w' at hsame hblk ⊢
 have hsz : w.heap.size ≤ w'.heap.size := by rw [← hw']; simp
 have hidl := (List.getElem?_eq_some_iff.1 ho).1
 have hl : (o.set id none).length = o.length := by simp
 have hold : ∀ id', id' < o.length → (o.set id none ++ [some (⟨ob.T, 1, true, rowsV enc (d'.toList.take k)⟩ : AObj)])[id']? = (o.set id none)[id']? := fun id' h => List.getElem?_append_left (by rw [hl]; exact h)
 have hnew : (o.set id none ++ [some (⟨ob.T, 1, true, rowsV enc (d'.toList.take k)⟩ : AObj)])[o.length]? = some (some ⟨ob.T, 1, true, rowsV enc (d'.toList.take k)⟩) := by rw [← hl, List.getElem?_concat_length]
 obtain ⟨cap', hc1, hc2, hc3, hc4⟩ := hb.vec hv
 have ecap : cap' = cap := by
  rw [hc1] at hnu
  simp only [Value.slice.injEq] at hnu
  exact hnu.2.2
 subst ecap
 have hbk : blkM (nu id ob.hl) = some blk := hb.blkEq
 have hkl : (rowsV enc (d'.toList.take k)).length = k := by simp [rowsV]; omega
 have hm : Mono nu o w (updN nu o.length (.slice (some ⟨blk, 0, none⟩) k cap')) (o.set id none ++ [some ⟨ob.T, 1, true, rowsV enc (d'.toList.take k)⟩]) w' := by
  refine ⟨by rw [← hw']; rfl, by rw [← hw']; rfl, by rw [← hw']; rfl, hsz, fun id' len hh => ?_, fun b hbl hno => ?_⟩
  ·have hlt' := hdrOk_lt hh
   obtain ⟨x, h1, h2⟩ := hh
   refine ⟨?_, updN_old hlt'⟩
   by_cases he : id = id'
   ·subst he
    exact ⟨none, by rw [hold _ hlt', List.getElem?_set_self hidl], fun _ e => by cases e⟩
   ·exact ⟨x, by rw [hold _ hlt', List.getElem?_set_ne he]; exact h1, h2⟩
  ·have hne : b ≠ blk := fun e => hno ⟨id, ob, ho, by rw [e]; exact hbk⟩
   refine ⟨hsame b hbl hne, fun ⟨id', ob', h1, h2⟩ => ?_⟩
   rcases Nat.lt_or_ge id' o.length with q | q
   ·rw [hold _ q] at h1
    rw [updN_old q] at h2
    exact hno ⟨id', ob', (kill_get h1).1, h2⟩
   ·obtain rfl : id' = o.length := by
     have := (List.getElem?_eq_some_iff.1 h1).1
     simp at this; omega
    rw [updN_new] at h2
    cases h2; exact hne rfl
 refine ⟨hm, fun id' ob' h1 => ?_, fun b hbl => h.up b (Nat.le_trans hsz hbl), fun i1 i2 b1 b2 b k1 k2 hne k3 k4 => ?_, h.gl.mono hm (fun _ _ h => h)⟩
 ·rcases Nat.lt_or_ge id' o.length with q | q
  ·rw [hold _ q] at h1
   obtain ⟨h2, h3⟩ := kill_get h1
   have hne : ∀ g, blkM (nu id' ob'.hl) = some g → g ≠ blk := fun g e e' => h.sep id id' ob ob' blk ho h2 h3 hbk (by rw [← e']; exact e)
   rcases h.obj id' ob' h2 with ⟨e1, e2, e3⟩ | ⟨g, c, hr'⟩ | ⟨g, es, cl, hmp⟩
   ·exact .inl ⟨e1, e2, by rw [updN_old q]; exact e3⟩
   ·have hg := (hsame g (h.owned_lt ⟨id', ob', h2, hr'.blkEq⟩) (hne g hr'.blkEq)).trans hr'.blk
    exact .inr (.inl ⟨g, c, hg, hr'.dom, fun e => by rw [updN_old q]; exact hr'.box e, fun e => by rw [updN_old q]; exact hr'.vec e, hr'.z, hr'.row, fun i j row cc x q1 q2 q3 => (hr'.cell i j row cc x q1 q2 q3).mono hm (fun _ _ h => h), hr'.one⟩)
   ·exact .inr (.inr ⟨g, es, cl, hmp.tr (hsame g (h.owned_lt ⟨id', ob', h2, hmp.blkEq⟩) (hne g hmp.blkEq)) (fun h => h) (updN_old q) (fun i j row c x _ _ hr => hr.mono hm (fun _ _ h => h))⟩)
  ·obtain rfl : id' = o.length := by
    have := (List.getElem?_eq_some_iff.1 h1).1
    simp at this; omega
   rw [hnew] at h1; cases h1
   have row : ∀ (i : Nat) r, (rowsV enc (d'.toList.take k))[i]? = some r → ∃ hi : i < d'.size, i < k ∧ r = [.v (enc d'[i])] := fun i r hi => by
    have hik := (List.getElem?_eq_some_iff.1 hi).1
    rw [hkl] at hik
    refine ⟨by omega, hik, ?_⟩
    simp only [rowsV, List.getElem?_map, List.getElem?_take, if_pos hik] at hi
    have hid : i < d'.size := by omega
    rw [show d'.toList[i]? = some d'[i] by simp [hid]] at hi
    simpa using hi.symm
   have cell : ∀ (i j : Nat) r c x, (rowsV enc (d'.toList.take k))[i]? = some r → r[j]? = some c → (putCells enc 0 d' cur)[i * 1 + j]? = some x → c = .v x ∧ x.oneCell' = true := fun i j r c x q1 q2 q3 => by
    obtain ⟨hi, hik, rfl⟩ := row i r q1
    cases j with
    | succ j => simp at q2
    | zero =>
     simp at q2; subst q2
     simp only [putCells, Array.getElem?_mapIdx, Nat.mul_one, Nat.add_zero, Nat.zero_le, true_and, Nat.zero_add, Nat.sub_zero] at q3
     have hic : i < cur.size := by rw [hc4, hz]; omega
     rw [Array.getElem?_eq_getElem hic, Option.map_some, if_pos hi] at q3
     cases q3
     exact ⟨by rw [getElem!_pos d' i hi], hone _⟩
   refine .inr (.inl ⟨blk, putCells enc 0 d' cur, hblk, hb.dom, fun e => (by cases e), fun _ => ⟨cap', by rw [updN_new, hkl], by rw [hkl]; omega, hc3, by simp only [putCells, Array.size_mapIdx]; rw [hc4, hz]⟩, Nat.one_pos, fun i r hi => ?_, fun i j r c x q1 q2 q3 => ?_, fun i j r c x q1 q2 q3 => ?_⟩)
   ·obtain ⟨_, _, rfl⟩ := row i r hi; rfl
   ·rw [(cell i j r c x q1 q2 q3).1]; exact .v x
   ·exact (cell i j r c x q1 q2 q3).2
 ·have side : ∀ i1 i2 b1 b2, (o.set id none ++ [some (⟨ob.T, 1, true, rowsV enc (d'.toList.take k)⟩ : AObj)])[i1]? = some (some b1) → (o.set id none ++ [some (⟨ob.T, 1, true, rowsV enc (d'.toList.take k)⟩ : AObj)])[i2]? = some (some b2) → i1 < o.length → o.length ≤ i2 → blkM (updN nu o.length (.slice (some ⟨blk, 0, none⟩) k cap') i1 b1.hl) = some b → blkM (updN nu o.length (.slice (some ⟨blk, 0, none⟩) k cap') i2 b2.hl) = some b → False := fun i1 i2 b1 b2 k1 k2 l1 l2 k3 k4 => by
   obtain rfl : i2 = o.length := by
    have := (List.getElem?_eq_some_iff.1 k2).1
    simp at this; omega
   rw [updN_new] at k4; cases k4
   rw [hold _ l1] at k1
   obtain ⟨h2, h3⟩ := kill_get k1
   rw [updN_old l1] at k3
   exact h.sep id i1 ob b1 _ ho h2 h3 hbk k3
  rcases Nat.lt_or_ge i1 o.length with l1 | l1
  ·rcases Nat.lt_or_ge i2 o.length with l2 | l2
   ·rw [hold _ l1] at k1
    rw [hold _ l2] at k2
    rw [updN_old l1] at k3
    rw [updN_old l2] at k4
    exact h.sep i1 i2 b1 b2 b (kill_get k1).1 (kill_get k2).1 hne k3 k4
   ·exact side i1 i2 b1 b2 k1 k2 l1 l2 k3 k4
  ·rcases Nat.lt_or_ge i2 o.length with l2 | l2
   ·exact side i2 i1 b2 b1 k2 k1 l2 l1 k4 k3
   ·have e1 := (List.getElem?_eq_some_iff.1 k1).1
    have e2 := (List.getElem?_eq_some_iff.1 k2).1
    simp at e1 e2; omega
theorem CallE.row {α : Type} [Inhabited α] {enc : α → Value} (hone : ∀ a, (enc a).oneCell' = true) {f : FuncId} {args : List AV} {T : TypeId} {d : List α} {o1 : List (Option AObj)} {d' : List α} {k : Nat} (hd : d'.length = d.length) (hk : k ≤ d.length) (hc : callOk P f = true)
  (hcall : ∀ D nu w vargs cap blk, RO D nu (some ⟨T, 1, true, rowsV enc d⟩ :: o1) w → RAs D nu (some ⟨T, 1, true, rowsV enc d⟩ :: o1) w args vargs → Go.Sort.Holds enc w blk 0 d.toArray → blk < w.heap.size → nu 0 d.length = .slice (some ⟨blk, 0, none⟩) d.length cap → d.length ≤ cap → cap ≤ maxLen → Calls P f (#[.slice (some ⟨blk, 0, none⟩) d.length cap] ++ vargs) w (fun e w' => e = .returned (.slice (some ⟨blk, 0, none⟩) k cap) ∧ ∃ n os, w' = Go.Sort.grow (Go.Sort.putRow enc (Go.Sort.ahead w n) blk 0 d'.toArray) os))
  (hnil : d = [] → ∀ D nu w vargs, RO D nu (some ⟨T, 1, true, rowsV enc d⟩ :: o1) w → RAs D nu (some ⟨T, 1, true, rowsV enc d⟩ :: o1) w args vargs → Calls P f (#[.slice none 0 0] ++ vargs) w (fun e w' => e = .returned (.slice none 0 0) ∧ Below w.heap.size w w')) :
  CallE P f (.vec 0 d.length :: args) (some ⟨T, 1, true, rowsV enc d⟩ :: o1) (.vec (o1.length + 1) k) (none :: o1 ++ [some ⟨T, 1, true, rowsV enc (d'.take k)⟩]) := by
 refine ⟨hc, fun D nu w vargs hro hra => ?_⟩
 have hlen : (rowsV enc d).length = d.length := by simp [rowsV]
 obtain ⟨vl⟩ := vargs
 cases vl with
 | nil => have := hra.len; simp at this
 | cons x l =>
 have hx := hra.at' 0 _ x rfl (by simp)
 have hxs : RAs D nu (some ⟨T, 1, true, rowsV enc d⟩ :: o1) w args l.toArray := ⟨by have := hra.len; simp at this; simpa using this, fun i c y h1 h2 => hra.at' (i + 1) c y (by simpa using h1) (by simpa using h2)⟩
 have ev : (⟨x :: l⟩ : Array Value) = #[x] ++ l.toArray := by simp
 have hxq : x = nu 0 d.length := by
  cases hx with
  | vec => rfl
 have hob : (some ⟨T, 1, true, rowsV enc d⟩ :: o1)[0]? = some (some (⟨T, 1, true, rowsV enc d⟩ : AObj)) := rfl
 rw [ev, hxq]
 rcases hro.obj 0 _ hob with ⟨_, e2, e3⟩ | ⟨g, cur, hb⟩ | ⟨g, es, cl, hm⟩
 ·have hdn : d = [] := by simpa [rowsV] using e2
  have hk0 : k = 0 := by rw [hdn] at hk; simpa using hk
  have hn := hnil hdn D nu w l.toArray hro hxs
  subst hk0
  have e4 : nu 0 d.length = .slice none 0 0 := by rw [hdn]; exact e3
  rw [e4]
  refine hn.mono ?_
  rintro e w' ⟨rfl, hbl⟩
  have hkm := kill_mono (nu := nu) (o := some ⟨T, 1, true, rowsV enc d⟩ :: o1) (w := w) 0
  have hkr := (kill_RO hro 0)
  simp only [List.set_cons_zero] at hkm hkr
  have hv : ∀ b, blkM (Value.slice none 0 0) = some b → w.heap.size ≤ b := fun b e => by cases e
  have hpm := push_mono (nu := nu) (o := none :: o1) (ob := ⟨T, 1, true, []⟩) hbl hv
  have hpr := push_RO (ob := ⟨T, 1, true, []⟩) hkr hbl hv (.inl ⟨rfl, rfl, rfl⟩)
  simp only [List.length_cons] at hpm hpr
  refine ⟨_, _, _, _, rfl, hkm.trans hpm, hpr, ?_, rfl, by simp [rowsV]⟩
  have := RA.vec (D := D) (nu := updN nu (o1.length + 1) (.slice none 0 0)) (o := (none :: o1 ++ [some (⟨T, 1, true, []⟩ : AObj)])) (w := w') (o1.length + 1) 0 ⟨some ⟨T, 1, true, []⟩, by simp, fun _ _ => Nat.zero_le _⟩ (by rw [updN_new]; rfl)
  rw [updN_new] at this
  exact this
 ·obtain ⟨cap, h1, h2, h3, h4⟩ := hb.vec rfl
  have hlen' : (AObj.mk T 1 true (rowsV enc d)).rows.length = d.length := hlen
  rw [hlen'] at h1 h2
  have hlt : g < w.heap.size := (Array.getElem?_eq_some_iff.1 hb.blk).1
  rw [show nu 0 d.length = _ from h1]
  refine (hcall D nu w l.toArray cap g hro hxs (holds_row hb rfl rfl) hlt h1 h2 h3).mono ?_
  rintro e w' ⟨rfl, n, os, rfl⟩
  obtain ⟨hm, hr⟩ := row_turn (enc := enc) hone hro hob rfl rfl (d := d) rfl (blk := g) (cap := cap) (by rw [hlen']; exact h1) (n := n) (d' := d'.toArray) (by simpa using hd) (os := os) hk
  simp only [List.set_cons_zero, List.length_cons] at hm hr
  refine ⟨_, _, _, _, rfl, hm, hr, ?_, rfl, rfl⟩
  have := RA.vec (D := D) (nu := updN nu (o1.length + 1) (.slice (some ⟨g, 0, none⟩) k cap)) (o := (none :: o1 ++ [some (⟨T, 1, true, rowsV enc (d'.take k)⟩ : AObj)])) (w := Go.Sort.grow (Go.Sort.putRow enc (Go.Sort.ahead w n) g 0 d'.toArray) os) (o1.length + 1) k ⟨some ⟨T, 1, true, rowsV enc (d'.take k)⟩, by simp, fun x hx => by cases hx; simp [AObj.hl, rowsV]; omega⟩ (by rw [updN_new]; rfl)
  rw [updN_new] at this
  exact this
 ·have := hm.isV; cases this
/-! ### own objects, picked and numbered anew -/
def SelT (f : Nat → Nat) (n : Nat) : List AV → List AV → Prop
 | [], [] => True
 | a :: l, c :: m => (c = .undef ∨ (a = c.ren f ∧ c.wf n = true)) ∧ SelT f n l m
 | _, _ => False
end
end Go.Proofs.YtfflpdekojlnmaaGreatDoor
