/- An abstract walk: values told as data (rows that stay, boxes and rows of the call's own), and what it means that they lie so in a world. No program is named here. -/
import Derived.WalkKit
import Derived.Lib.Hide
import Derived.Maps.AppendAt
namespace Go.Proofs.Yteihcfhdhkamfaa
open Go.RowKit

/-- a value, told as data -/
inductive AV where
  | undef
  | v (x : Value)
  | agg (cs : List AV)
  | tup (vs : List AV)
  | slc (z : Nat) (rows : List (List AV)) (len : Nat)
  | vp (cs : List AV)
  | ptr (id len z row off : Nat)
  | vec (id len : Nat)
  | fn (g : FuncId) (first caps : List AV)

/-- an object of the call's own: a box (one row), a row of elements -/
structure AObj where
  T : TypeId
  z : Nat
  isV : Bool
  rows : List (List AV)

def AObj.hl (ob : AObj) : Nat := if ob.isV then ob.rows.length else 0

/-- the activation's values and the objects that it owns -/
structure AS where
  t : List AV
  o : List (Option AObj)

def blkOf : Value → Option Nat
  | .pointer (some a) => some a.block
  | .slice (some a) _ _ => some a.block
  | _ => none

def hdrOk (o : List (Option AObj)) (id len : Nat) : Prop := ∃ ob, o[id]? = some ob ∧ ∀ x, ob = some x → len ≤ x.hl

def owned (nu : Nat → Nat → Value) (o : List (Option AObj)) (b : Nat) : Prop := ∃ id ob, o[id]? = some (some ob) ∧ blkOf (nu id ob.hl) = some b

/-- blocks that stay -/
def Fz (D : Nat → Prop) (nu : Nat → Nat → Value) (o : List (Option AObj)) (w : World) (b : Nat) : Prop := b < w.heap.size ∧ ¬ owned nu o b ∧ D b

/-- a value reads as data -/
inductive RA (D : Nat → Prop) (nu : Nat → Nat → Value) (o : List (Option AObj)) (w : World) : AV → Value → Prop
  | undef (x : Value) : RA D nu o w .undef x
  | v (x : Value) : RA D nu o w (.v x) x
  | agg (cs : List AV) (xs : Array Value) : cs.length = xs.size → (∀ (i : Nat) c x, cs[i]? = some c → xs[i]? = some x → RA D nu o w c x) → (∀ (i : Nat) x, xs[i]? = some x → x.oneCell' = true) → RA D nu o w (.agg cs) (.agg xs)
  | tup (cs : List AV) (xs : Array Value) : cs.length = xs.size → (∀ (i : Nat) c x, cs[i]? = some c → xs[i]? = some x → RA D nu o w c x) → RA D nu o w (.tup cs) (.tuple xs)
  | slcNil (z : Nat) : RA D nu o w (.slc z [] 0) (.slice none 0 0)
  | slcOdd (z : Nat) (a : Addr) : RA D nu o w (.slc z [] 0) (.slice (some a) 0 0)
  | slc (z : Nat) (rows : List (List AV)) (len b off cap : Nat) (f : Nat → Nat → Value) : len ≤ rows.length → rows.length ≤ cap → cap ≤ maxLen → (rows ≠ [] → Fz D nu o w b) →
      (∀ (i : Nat) row, rows[i]? = some row → row.length = z) → (∀ (i j : Nat) row c, rows[i]? = some row → row[j]? = some c → w.cell? ⟨b, off + i * z + j, none⟩ = some (f i j)) →
      (∀ (i j : Nat) row c, rows[i]? = some row → row[j]? = some c → RA D nu o w c (f i j)) → (∀ (i j : Nat) row c, rows[i]? = some row → row[j]? = some c → (f i j).oneCell' = true) →
      RA D nu o w (.slc z rows len) (.slice (some ⟨b, off, none⟩) len cap)
  | vp (cs : List AV) (b off : Nat) (f : Nat → Value) : Fz D nu o w b → (∀ (j : Nat) c, cs[j]? = some c → w.cell? ⟨b, off + j, none⟩ = some (f j)) → (∀ (j : Nat) c, cs[j]? = some c → RA D nu o w c (f j)) →
      (∀ (j : Nat) c, cs[j]? = some c → (f j).oneCell' = true) → RA D nu o w (.vp cs) (.pointer (some ⟨b, off, none⟩))
  | ptr (id len z row off b : Nat) : hdrOk o id len → blkOf (nu id len) = some b → RA D nu o w (.ptr id len z row off) (.pointer (some ⟨b, row * z + off, none⟩))
  | vec (id len : Nat) : hdrOk o id len → (nu id len).oneCell' = true → RA D nu o w (.vec id len) (nu id len)
  | fn (g : FuncId) (first caps : List AV) (fi ca : Array Value) : first.length = fi.size → caps.length = ca.size → (∀ (i : Nat) c x, first[i]? = some c → fi[i]? = some x → RA D nu o w c x) →
      (∀ (i : Nat) c x, caps[i]? = some c → ca[i]? = some x → RA D nu o w c x) → RA D nu o w (.fn g first caps) (.func (.func g) fi ca)

/-- value by value -/
structure RAs (D : Nat → Prop) (nu : Nat → Nat → Value) (o : List (Option AObj)) (w : World) (cs : List AV) (xs : Array Value) : Prop where
  len : cs.length = xs.size
  at' : ∀ (i : Nat) c x, cs[i]? = some c → xs[i]? = some x → RA D nu o w c x

/-- What a step leaves of what was there: w' comes of w, where o was owned, and o' is owned now. -/
structure Mono (nu : Nat → Nat → Value) (o : List (Option AObj)) (w : World) (nu' : Nat → Nat → Value) (o' : List (Option AObj)) (w' : World) : Prop where
  os : w'.os = w.os
  tape : w'.tape = w.tape
  output : w'.output = w.output
  size : w.heap.size ≤ w'.heap.size
  hdr : ∀ id len, hdrOk o id len → hdrOk o' id len ∧ nu' id len = nu id len
  keep : ∀ b, b < w.heap.size → ¬ owned nu o b → w'.heap[b]? = w.heap[b]? ∧ ¬ owned nu' o' b

theorem Mono.refl (nu : Nat → Nat → Value) (o : List (Option AObj)) (w : World) : Mono nu o w nu o w := ⟨rfl, rfl, rfl, Nat.le_refl _, fun _ _ h => ⟨h, rfl⟩, fun _ _ h => ⟨rfl, h⟩⟩
theorem Mono.trans {nu nu1 nu2 : Nat → Nat → Value} {o o1 o2 : List (Option AObj)} {w w1 w2 : World} (h : Mono nu o w nu1 o1 w1) (k : Mono nu1 o1 w1 nu2 o2 w2) : Mono nu o w nu2 o2 w2 :=
  ⟨k.os.trans h.os, k.tape.trans h.tape, k.output.trans h.output, Nat.le_trans h.size k.size, fun id len hh => by
    obtain ⟨h1, h2⟩ := h.hdr id len hh
    obtain ⟨h3, h4⟩ := k.hdr id len h1
    exact ⟨h3, h4.trans h2⟩, fun b hb ho => by
    obtain ⟨h1, h2⟩ := h.keep b hb ho
    obtain ⟨h3, h4⟩ := k.keep b (Nat.lt_of_lt_of_le hb h.size) h2
    exact ⟨h3.trans h1, h4⟩⟩

theorem Mono.fz {D D' : Nat → Prop} {nu nu' : Nat → Nat → Value} {o o' : List (Option AObj)} {w w' : World} (h : Mono nu o w nu' o' w') (hD : ∀ b, b < w.heap.size → D b → D' b) {b : Nat} (hb : Fz D nu o w b) : Fz D' nu' o' w' b :=
  ⟨Nat.lt_of_lt_of_le hb.1 h.size, (h.keep b hb.1 hb.2.1).2, hD b hb.1 hb.2.2⟩

theorem RA.mono {D D' : Nat → Prop} {nu nu' : Nat → Nat → Value} {o o' : List (Option AObj)} {w w' : World} (h : Mono nu o w nu' o' w') (hD : ∀ b, b < w.heap.size → D b → D' b) {a : AV} {x : Value} (hr : RA D nu o w a x) : RA D' nu' o' w' a x := by
  induction hr with
  | undef x => exact .undef x
  | v x => exact .v x
  | agg cs xs h1 _ h3 ih => exact .agg cs xs h1 ih h3
  | tup cs xs h1 _ ih => exact .tup cs xs h1 ih
  | slcNil z => exact .slcNil z
  | slcOdd z a => exact .slcOdd z a
  | slc z rows len b off cap f h1 h2 h3 h4 h5 h6 _ h8 ih =>
    refine .slc z rows len b off cap f h1 h2 h3 (fun hne => h.fz hD (h4 hne)) h5 (fun i j row c hr hc => ?_) ih h8
    have hne : rows ≠ [] := fun e => by subst e; simp at hr
    have hf := h4 hne
    rw [World.cell?_of_block (w := w) (h.keep b hf.1 hf.2.1).1]
    exact h6 i j row c hr hc
  | vp cs b off f h1 h2 _ h4 ih =>
    refine .vp cs b off f (h.fz hD h1) (fun j c hc => ?_) ih h4
    rw [World.cell?_of_block (w := w) (h.keep b h1.1 h1.2.1).1]
    exact h2 j c hc
  | ptr id len z row off b h1 h2 =>
    obtain ⟨h3, h4⟩ := h.hdr id len h1
    exact .ptr id len z row off b h3 (by rw [h4]; exact h2)
  | vec id len h1 h2 =>
    obtain ⟨h3, h4⟩ := h.hdr id len h1
    rw [← h4]
    exact .vec id len h3 (by rw [h4]; exact h2)
  | fn g first caps fi ca h1 h2 _ _ ih1 ih2 => exact .fn g first caps fi ca h1 h2 ih1 ih2

theorem RAs.mono {D D' : Nat → Prop} {nu nu' : Nat → Nat → Value} {o o' : List (Option AObj)} {w w' : World} (h : Mono nu o w nu' o' w') (hD : ∀ b, b < w.heap.size → D b → D' b) {cs : List AV} {xs : Array Value} (hr : RAs D nu o w cs xs) : RAs D' nu' o' w' cs xs :=
  ⟨hr.len, fun i c x h1 h2 => (hr.at' i c x h1 h2).mono h hD⟩

/-- an object lies in the world: block g holds cur -/
structure ROb (D : Nat → Prop) (nu : Nat → Nat → Value) (o : List (Option AObj)) (w : World) (id : Nat) (ob : AObj) (g : Nat) (cur : Array Value) : Prop where
  blk : w.heap[g]? = some (.cells cur ob.T (0, 0))
  dom : D g
  box : ob.isV = false → nu id 0 = .pointer (some ⟨g, 0, none⟩) ∧ ob.rows.length = 1 ∧ cur.size = ob.z
  vec : ob.isV = true → ∃ cap, nu id ob.rows.length = .slice (some ⟨g, 0, none⟩) ob.rows.length cap ∧ ob.rows.length ≤ cap ∧ cap ≤ maxLen ∧ cur.size = cap * ob.z
  z : 0 < ob.z
  row : ∀ (i : Nat) row, ob.rows[i]? = some row → row.length = ob.z
  cell : ∀ (i j : Nat) row c x, ob.rows[i]? = some row → row[j]? = some c → cur[i * ob.z + j]? = some x → RA D nu o w c x
  one : ∀ (i j : Nat) row c x, ob.rows[i]? = some row → row[j]? = some c → cur[i * ob.z + j]? = some x → x.oneCell' = true

/-- the objects lie in the world, apart -/
structure RO (D : Nat → Prop) (nu : Nat → Nat → Value) (o : List (Option AObj)) (w : World) : Prop where
  obj : ∀ id ob, o[id]? = some (some ob) → (ob.isV = true ∧ ob.rows = [] ∧ nu id 0 = .slice none 0 0) ∨ ∃ g cur, ROb D nu o w id ob g cur
  up : ∀ b, w.heap.size ≤ b → D b
  sep : ∀ id id' ob ob' b, o[id]? = some (some ob) → o[id']? = some (some ob') → id ≠ id' → blkOf (nu id ob.hl) = some b → blkOf (nu id' ob'.hl) ≠ some b

theorem RO.nil (D : Nat → Prop) (nu : Nat → Nat → Value) (w : World) (up : ∀ b, w.heap.size ≤ b → D b) : RO D nu [] w := ⟨fun id ob h => by simp at h, up, fun id id' ob ob' b h => by simp at h⟩
theorem owned_nil (nu : Nat → Nat → Value) (b : Nat) : ¬ owned nu [] b := fun ⟨id, ob, h, _⟩ => by simp at h

theorem ROb.blkEq {D : Nat → Prop} {nu : Nat → Nat → Value} {o : List (Option AObj)} {w : World} {id : Nat} {ob : AObj} {g : Nat} {cur : Array Value} (h : ROb D nu o w id ob g cur) : blkOf (nu id ob.hl) = some g := by
  cases hv : ob.isV
  · simp only [AObj.hl, hv, Bool.false_eq_true, if_false]; rw [(h.box hv).1]; rfl
  · obtain ⟨cap, h1, _⟩ := h.vec hv
    simp only [AObj.hl, hv, if_true]; rw [h1]; rfl

theorem RO.owned_lt {D : Nat → Prop} {nu : Nat → Nat → Value} {o : List (Option AObj)} {w : World} (h : RO D nu o w) {b : Nat} (hb : owned nu o b) : b < w.heap.size := by
  obtain ⟨id, ob, h1, h2⟩ := hb
  rcases h.obj id ob h1 with ⟨e1, e2, e3⟩ | ⟨g, cur, hr⟩
  · simp only [AObj.hl, e1, e2, if_true, List.length_nil, e3, blkOf] at h2; cases h2
  · rw [hr.blkEq] at h2; cases h2
    exact (Array.getElem?_eq_some_iff.1 hr.blk).1

/-- The objects as before, in a world that comes of the old one with all that is owned as it was. -/
theorem RO.same {D : Nat → Prop} {nu : Nat → Nat → Value} {o : List (Option AObj)} {w w' : World} (h : RO D nu o w) (hm : Mono nu o w nu o w') (hk : ∀ b, owned nu o b → w'.heap[b]? = w.heap[b]?) : RO D nu o w' :=
  ⟨fun id ob ho => by
    rcases h.obj id ob ho with h1 | ⟨g, cur, hr⟩
    · exact .inl h1
    · exact .inr ⟨g, cur, (hk g ⟨id, ob, ho, hr.blkEq⟩).trans hr.blk, hr.dom, hr.box, hr.vec, hr.z, hr.row, fun i j row c x h1 h2 h3 => (hr.cell i j row c x h1 h2 h3).mono hm (fun _ _ h => h), hr.one⟩, fun b hb => h.up b (Nat.le_trans hm.size hb), h.sep⟩

/-- where nothing that was there has turned -/
theorem mono_below {nu : Nat → Nat → Value} {o : List (Option AObj)} {w w' : World} (hb : Below w.heap.size w w') : Mono nu o w nu o w' :=
  ⟨hb.os, hb.tape, hb.output, hb.size, fun _ _ h => ⟨h, rfl⟩, fun b hlt ho => ⟨hb.block b hlt, ho⟩⟩
theorem RO.below {D : Nat → Prop} {nu : Nat → Nat → Value} {o : List (Option AObj)} {w w' : World} (h : RO D nu o w) (hb : Below w.heap.size w w') : RO D nu o w' :=
  h.same (mono_below hb) (fun b ho => hb.block b (h.owned_lt ho))

end Go.Proofs.Yteihcfhdhkamfaa
