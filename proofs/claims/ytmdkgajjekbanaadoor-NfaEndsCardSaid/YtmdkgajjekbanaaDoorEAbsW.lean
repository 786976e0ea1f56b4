/- A region that draws its order, makes rows, in whatever order, and then goes on one behind the other. No program is named here. -/
import Derived.Test.YtmdkgajjekbanaaDoorEAbsZ
set_option linter.unusedSimpArgs false
set_option linter.unusedVariables false
namespace Go.Proofs.YtmdkgajjekbanaaDoor
open Go.RowKit

structure MkR where
 d : Tmp
 k : Nat
 e : TypeId
 z : Nat
 n : Nat
 zc : List AV
 bx : Bool := false
def MkR.ob (m : MkR) : AObj := ⟨m.e, m.z, !m.bx, List.replicate m.n m.zc⟩
def MkR.av (m : MkR) (id : Nat) : AV := if m.bx then .ptr id 0 m.z 0 0 else .vec id m.n
def MkR.val (m : MkR) (b cap : Nat) : Value := if m.bx then .pointer (some ⟨b, 0, none⟩) else .slice (some ⟨b, 0, none⟩) m.n cap
theorem MkR.val_M (m : MkR) (b cap : Nat) : blkM (m.val b cap) = some b := by unfold MkR.val; split <;> rfl
theorem MkR.val_Of (m : MkR) (b cap : Nat) : blkOf (m.val b cap) = some b := by unfold MkR.val; split <;> rfl
def MkP (n0 : Nat) (m : MkR) (v : Value) (w : World) : Prop := ∃ b cap cur, v = m.val b cap ∧ n0 ≤ b ∧ w.heap[b]? = some (.cells cur m.e (0, 0)) ∧ m.n ≤ cap ∧ cap ≤ maxLen ∧ cur.size = cap * m.z ∧ 0 < m.z ∧ m.zc.length = m.z ∧ (m.bx = true → m.n = 1 ∧ cap = 1) ∧
 ∀ (i j : Nat) c x, i < m.n → m.zc[j]? = some c → cur[i * m.z + j]? = some x → c = .v x ∧ x.oneCell' = true
theorem MkP.below {n0 : Nat} {m : MkR} {v : Value} {w w' : World} (hb : Below w.heap.size w w') (h : MkP n0 m v w) : MkP n0 m v w' := by
 obtain ⟨b, cap, cur, h1, h2, h3, h4⟩ := h
 exact ⟨b, cap, cur, h1, h2, (hb.block b (Array.getElem?_eq_some_iff.1 h3).1).trans h3, h4⟩

section
variable {D : Nat → Prop} {nu : Nat → Nat → Value} {o : List (Option AObj)} {w : World} {P : Program}

def nuP (nu : Nat → Nat → Value) (N : Nat) (h : Nat → Value) : Nat → Nat → Value := fun id len => if id < N then nu id len else h (id - N)
theorem nuP_old {N : Nat} {h : Nat → Value} {id len : Nat} (hl : id < N) : nuP nu N h id len = nu id len := by simp [nuP, hl]
theorem nuP_new {N : Nat} {h : Nat → Value} {i len : Nat} : nuP nu N h (N + i) len = h i := by rw [nuP, if_neg (by omega), Nat.add_sub_cancel_left]

theorem claim_RO {w0 : World} (hro : RO D nu o w0) (hb : Below w0.heap.size w0 w) (ms : List MkR) (h : Nat → Value) (hm : ∀ i m, ms[i]? = some m → MkP w0.heap.size m (h i) w)
  (hne : ∀ i j, i < ms.length → j < ms.length → i ≠ j → ∀ b, blkOf (h i) = some b → blkOf (h j) ≠ some b) :
  Mono nu o w0 (nuP nu o.length h) (o ++ ms.map (fun m => some m.ob)) w ∧ RO D (nuP nu o.length h) (o ++ ms.map (fun m => some m.ob)) w ∧ ∀ i m, ms[i]? = some m → RA D (nuP nu o.length h) (o ++ ms.map (fun m => some m.ob)) w (m.av (o.length + i)) (h i) := by
 have old : ∀ id, id < o.length → (o ++ ms.map (fun m => some m.ob))[id]? = o[id]? := fun id hl => List.getElem?_append_left hl
 have new : ∀ id ob, o.length ≤ id → (o ++ ms.map (fun m => some m.ob))[id]? = some (some ob) → ∃ i m, id = o.length + i ∧ ms[i]? = some m ∧ ob = m.ob := fun id ob hl hh => by
  rw [List.getElem?_append_right hl, List.getElem?_map] at hh
  cases hi : ms[id - o.length]? with
  | none => rw [hi] at hh; cases hh
  | some m =>
   rw [hi] at hh
   simp only [Option.map_some, Option.some.injEq] at hh
   exact ⟨id - o.length, m, by omega, hi, hh.symm⟩
 have blk : ∀ i m, ms[i]? = some m → ∃ b, w0.heap.size ≤ b ∧ blkM (h i) = some b ∧ blkOf (h i) = some b := fun i m hi => by
  obtain ⟨b, cap, cur, h1, h2, _⟩ := hm i m hi
  exact ⟨b, h2, by rw [h1]; exact m.val_M b cap, by rw [h1]; exact m.val_Of b cap⟩
 have hmo : Mono nu o w0 (nuP nu o.length h) (o ++ ms.map (fun m => some m.ob)) w := by
  refine ⟨hb.os, hb.tape, hb.output, hb.size, fun id len hh => ⟨?_, nuP_old (hdrOk_lt hh)⟩, fun b hlt hno => ⟨hb.block b hlt, ?_⟩⟩
  ·obtain ⟨x, h1, h2⟩ := hh
   exact ⟨x, by rw [old id (List.getElem?_eq_some_iff.1 h1).1]; exact h1, h2⟩
  ·rintro ⟨id, ob, h1, h2⟩
   rcases Nat.lt_or_ge id o.length with hl | hl
   ·rw [old id hl] at h1
    rw [nuP_old hl] at h2
    exact hno ⟨id, ob, h1, h2⟩
   ·obtain ⟨i, m, rfl, hi, rfl⟩ := new id ob hl h1
    rw [nuP_new] at h2
    obtain ⟨b', h3, h4, _⟩ := blk i m hi
    rw [h4] at h2; cases h2; omega
 have row : ∀ i m, ms[i]? = some m → ∃ g cur, ROb D (nuP nu o.length h) (o ++ ms.map (fun m => some m.ob)) w (o.length + i) m.ob g cur := fun i m hi => by
  obtain ⟨b, cap, cur, h1, h2, h3, h4, h5, h6, h7, h8, h10, h9⟩ := hm i m hi
  have inr : ∀ (i' : Nat) r, (List.replicate m.n m.zc)[i']? = some r → i' < m.n ∧ r = m.zc := fun i' r hr => by
   rw [List.getElem?_replicate] at hr
   split at hr
   ·cases hr; exact ⟨‹_›, rfl⟩
   ·cases hr
  refine ⟨b, cur, h3, hro.up b h2, fun e => ?_, fun e => ⟨cap, ?_, ?_, h5, h6⟩, h7, fun i' r hr => ?_, fun i' j r c x q1 q2 q3 => ?_, fun i' j r c x q1 q2 q3 => ?_⟩
  ·have hb : m.bx = true := by simpa [MkR.ob] using e
   obtain ⟨k1, k2⟩ := h10 hb
   refine ⟨by rw [nuP_new, h1, MkR.val, if_pos hb], by simp [MkR.ob, k1], ?_⟩
   rw [h6, k2, Nat.one_mul]; rfl
  ·have hb : m.bx = false := by simpa [MkR.ob] using e
   rw [nuP_new, h1, MkR.val, hb]; simp [MkR.ob]
  ·simpa [MkR.ob] using h4
  ·obtain ⟨_, rfl⟩ := inr i' r hr; exact h8
  ·obtain ⟨hl, rfl⟩ := inr i' r q1
   obtain ⟨rfl, _⟩ := h9 i' j c x hl q2 q3
   exact .v _
  ·obtain ⟨hl, rfl⟩ := inr i' r q1
   exact (h9 i' j c x hl q2 q3).2
 refine ⟨hmo, ⟨fun id ob ho => ?_, fun b hlt => hro.up b (Nat.le_trans hb.size hlt), fun id id' ob1 ob2 b h1 h2 hd h3 h4 => ?_, hro.gl.mono hmo (fun _ _ h => h)⟩, fun i m hi => ?_⟩
 ·rcases Nat.lt_or_ge id o.length with hl | hl
  ·rw [old id hl] at ho
   rcases hro.obj id ob ho with ⟨e1, e2, e3⟩ | ⟨g, cur, hr⟩ | ⟨g, es, cl, hmp⟩
   ·exact .inl ⟨e1, e2, by rw [nuP_old hl]; exact e3⟩
   ·refine .inr (.inl ⟨g, cur, (hb.block g (hro.owned_lt ⟨id, ob, ho, hr.blkEq⟩)).trans hr.blk, hr.dom, fun e => ?_, fun e => ?_, hr.z, hr.row, fun i j row c x h1 h2 h3 => (hr.cell i j row c x h1 h2 h3).mono hmo (fun _ _ h => h), hr.one⟩)
    ·rw [nuP_old hl]; exact hr.box e
    ·rw [nuP_old hl]; exact hr.vec e
   ·exact .inr (.inr ⟨g, es, cl, hmp.tr (hb.block g (hro.owned_lt ⟨id, ob, ho, hmp.blkEq⟩)) (fun h => h) (nuP_old hl) (fun i j row c x _ _ hr => hr.mono hmo (fun _ _ h => h))⟩)
  ·obtain ⟨i, m, rfl, hi, rfl⟩ := new id ob hl ho
   exact .inr (.inl (row i m hi))
 ·rcases Nat.lt_or_ge id o.length with l1 | l1
  ·rw [old id l1] at h1
   rw [nuP_old l1] at h3
   rcases Nat.lt_or_ge id' o.length with l2 | l2
   ·rw [old id' l2] at h2
    rw [nuP_old l2] at h4
    exact hro.sep id id' ob1 ob2 b h1 h2 hd h3 h4
   ·obtain ⟨i, m, rfl, hi, rfl⟩ := new id' ob2 l2 h2
    rw [nuP_new] at h4
    obtain ⟨b', q1, q2, _⟩ := blk i m hi
    rw [q2] at h4; cases h4
    have := hro.owned_lt ⟨id, ob1, h1, h3⟩
    omega
  ·obtain ⟨i, m, rfl, hi, rfl⟩ := new id ob1 l1 h1
   rw [nuP_new] at h3
   obtain ⟨b', q1, q2, q3⟩ := blk i m hi
   rw [q2] at h3; cases h3
   rcases Nat.lt_or_ge id' o.length with l2 | l2
   ·rw [old id' l2] at h2
    rw [nuP_old l2] at h4
    have := hro.owned_lt ⟨id', ob2, h2, h4⟩
    omega
   ·obtain ⟨j, m', rfl, hj, rfl⟩ := new id' ob2 l2 h2
    rw [nuP_new] at h4
    obtain ⟨b2, p1, p2, p3⟩ := blk j m' hj
    rw [p2] at h4; cases h4
    exact hne i j (List.getElem?_eq_some_iff.1 hi).1 (List.getElem?_eq_some_iff.1 hj).1 (fun e => hd (by rw [e])) _ q3 p3
 ·obtain ⟨b, cap, cur, h1, _⟩ := hm i m hi
  have hg : (o ++ ms.map (fun m => some m.ob))[o.length + i]? = some (some m.ob) := by rw [List.getElem?_append_right (by omega), List.getElem?_map, show o.length + i - o.length = i by omega, hi]; rfl
  cases hb : m.bx
  ·have := RA.vec (D := D) (nu := nuP nu o.length h) (o := o ++ ms.map (fun m => some m.ob)) (w := w) (o.length + i) m.n ⟨some m.ob, hg, fun x hx => by cases hx; simp [AObj.hl, MkR.ob, hb]⟩ (by rw [nuP_new, h1, MkR.val, hb]; rfl)
   rw [nuP_new] at this
   rw [MkR.av, hb]
   exact this
  ·have := RA.ptr (D := D) (nu := nuP nu o.length h) (o := o ++ ms.map (fun m => some m.ob)) (w := w) (o.length + i) 0 m.z 0 0 b ⟨some m.ob, hg, fun x hx => Nat.zero_le _⟩ (by rw [nuP_new, h1]; exact m.val_Of b cap)
   rw [MkR.av, hb, h1, MkR.val, hb]
   simpa using this

/-! ### the rule -/
def mkT : List AV → Nat → List MkR → List AV
 | t, _, [] => t
 | t, N, m :: l => mkT (t.set m.d (m.av N)) (N + 1) l
def mkDone (s : AS) (ms : List MkR) : AS := ⟨mkT s.t s.o.length ms, s.o ++ ms.map (fun m => some m.ob), s.y⟩

def AV.cal : AV → AV
 | .v x => .v x
 | .ptr a b c d e => .ptr a b c d e
 | .vec a b => .vec a b
 | .agg cs => if AV.flat (.agg cs) then .agg cs else .undef
 | _ => .undef
theorem RA.cal {D' : Nat → Prop} {nu' : Nat → Nat → Value} {o' : List (Option AObj)} {w' : World} (hh : ∀ id len, hdrOk o id len → hdrOk o' id len ∧ nu' id len = nu id len) {c : AV} {x : Value} (h : RA D nu o w c x) : RA D' nu' o' w' c.cal x := by
 cases h with
 | v => exact .v _
 | ptr id len z row off b h1 h2 => exact .ptr id len z row off b (hh _ _ h1).1 (by rw [(hh _ _ h1).2]; exact h2)
 | vec id len h1 h2 =>
  rw [← (hh _ _ h1).2] at h2 ⊢
  exact .vec id len (hh _ _ h1).1 h2
 | agg cs xs h1 h2 h3 =>
  simp only [AV.cal]
  split
  ·rename_i hf
   exact (RA.agg cs xs h1 h2 h3 : RA D nu o w _ _).flat hf
  ·exact .undef _
 | _ => exact .undef _
def calT : List Tmp → List AV → List AV
 | [], t => t
 | d :: ds, t => calT ds (t.set d (t.getD d .undef).cal)

def aMkS (P : Program) (T : TypeId) (n c : AV) : Option (Prop × TypeId × Nat × Nat × List AV) :=
 match P.underlying T, n, c with
 | some (.slice e), .v (.int _ l), .v (.int _ m) => match tApp P T, tZero P e with
  | some (_, z, bytes), some zr => some (0 ≤ l ∧ l ≤ m ∧ m.toNat * bytes ≤ 140737488355328 ∧ m.toNat ≤ 140737488355328, e, z, l.toNat, zr)
  | _, _ => none
 | _, _, _ => none
theorem aMkS_good {T : TypeId} {n c : AV} {x y : Value} (hx : RA D nu o w n x) (hy : RA D nu o w c y) {p : Prop} {e : TypeId} {z l : Nat} {zr : List AV} (hl : aMkS P T n c = some (p, e, z, l, zr)) (hp : p) (d : Tmp) (k : Nat) :
  ∃ v w', (Instr.makeSlice T x y).run P w = .ok v w' ∧ Below w.heap.size w w' ∧ MkP w.heap.size ⟨d, k, e, z, l, zr, false⟩ v w' := by
 unfold aMkS at hl
 split at hl
 ·rename_i e0 kl l0 kc m hu
  split at hl
  ·rename_i e2 z0 bytes zr0 ht hz
   simp only [Option.some.injEq, Prod.mk.injEq] at hl
   obtain ⟨rfl, rfl, rfl, rfl, rfl⟩ := hl
   obtain ⟨h1, h2, h3, h4⟩ := hp
   obtain ⟨hu', i, zv, hi, hzv, hzs, hz0, hsize, hbytes⟩ := tApp_spec ht
   rw [hu] at hu'; cases hu'
   obtain ⟨i', zv', hi', hzv', rfl, hone⟩ := tZero_spec hz
   rw [hi] at hi'; cases hi'
   rw [hzv] at hzv'; cases hzv'
   cases hx; cases hy
   have hr := run_make (P := P) w T e0 i zv hu hi hzv kl kc l0 m h1 h2 (by
    have : (i.bytes : Int) * m = ((m.toNat * i.bytes : Nat) : Int) := by
     rw [Int.natCast_mul, Int.toNat_of_nonneg (by omega), Int.mul_comm]
    rw [this, hbytes]; omega) (by omega)
   rw [hr]
   refine ⟨_, _, rfl, (Below.refl _ _).alloc (Nat.le_refl _) _, w.heap.size, m.toNat, _, rfl, Nat.le_refl _, heap_alloc_new w _, by show l0.toNat ≤ _; omega, by unfold maxLen; omega, by rw [size_madeCells, hsize], hz0, by simpa using hzs, fun e => (by cases e), fun i1 j c x q0 q1 q2 => ?_⟩
   replace q0 : i1 < l0.toNat := q0
   replace q1 : (zv.cells.toList.map AV.v)[j]? = some c := q1
   rw [List.getElem?_map] at q1
   cases hq : zv.cells.toList[j]? with
   | none => rw [hq] at q1; cases q1
   | some u =>
    rw [hq] at q1; cases q1
    have hjl : j < zv.cells.size := by have := (List.getElem?_eq_some_iff.1 hq).1; simpa using this
    have hlt2 : i1 * z0 + j < m.toNat * i.size := by rw [hsize]; exact idx_lt (by omega) (by omega)
    have hmod : (i1 * z0 + j) % zv.cells.size = j := by rw [hzs]; exact idx_mod (by omega)
    replace q2 : (madeCells zv.cells (m.toNat * i.size))[i1 * z0 + j]? = some x := q2
    simp only [madeCells, Array.getElem?_map, Array.getElem?_range, if_pos hlt2, Option.map_some, Option.some.injEq] at q2
    rw [hmod] at q2
    have hu2 : zv.cells[j]? = some u := by simpa using hq
    rw [getElem!_pos zv.cells j hjl, (Array.getElem?_eq_some_iff.1 hu2).2] at q2
    subst q2
    exact ⟨rfl, hone u (List.mem_of_getElem? hq)⟩
  ·cases hl
 ·cases hl

def aAlS (P : Program) (T : TypeId) : Option (Prop × TypeId × Nat × Nat × List AV) :=
 match tZero P T with
 | some zr => if 0 < zr.length then some (True, T, zr.length, 1, zr) else none
 | none => none
theorem aAlS_good {T : TypeId} {p : Prop} {e : TypeId} {z l : Nat} {zr : List AV} (hl : aAlS P T = some (p, e, z, l, zr)) (d : Tmp) (k : Nat) :
  ∃ v w', (Instr.alloc T true (.tuple #[])).run P w = .ok v w' ∧ Below w.heap.size w w' ∧ MkP w.heap.size ⟨d, k, e, z, l, zr, true⟩ v w' := by
 unfold aAlS at hl
 split at hl
 ·rename_i zr0 hz
  split at hl
  ·rename_i hpos
   simp only [Option.some.injEq, Prod.mk.injEq] at hl
   obtain ⟨-, rfl, rfl, rfl, rfl⟩ := hl
   obtain ⟨i, zv, hi, hzv, he, hone⟩ := tZero_spec hz
   have hzr : (zeroValue T).run P w = .ok zv w := by simp [zeroValue, typeInfo, hi, hzv]
   have hrun : (Instr.alloc T true (.tuple #[])).run P w = .ok (.pointer (some ⟨w.heap.size, 0, none⟩)) (w.alloc (.cells zv.cells T)) := by
    simp [Instr.alloc, newVar, newRow, hzr]
   rw [hrun]
   have hsz : zv.cells.size = zr0.length := by rw [he]; simp
   refine ⟨_, _, rfl, (Below.refl _ _).alloc (Nat.le_refl _) _, w.heap.size, 1, zv.cells, rfl, Nat.le_refl _, heap_alloc_new w _, Nat.le_refl _, by unfold maxLen; omega, by rw [hsz, Nat.one_mul], hpos, rfl, fun _ => ⟨rfl, rfl⟩, fun i1 j c x q0 q1 q2 => ?_⟩
   replace q0 : i1 < 1 := q0
   obtain rfl : i1 = 0 := by omega
   replace q1 : zr0[j]? = some c := q1
   rw [he, List.getElem?_map] at q1
   replace q2 : zv.cells[0 * zr0.length + j]? = some x := q2
   rw [Nat.zero_mul, Nat.zero_add] at q2
   have q3 : zv.cells.toList[j]? = some x := by simpa using q2
   rw [q3] at q1
   cases q1
   exact ⟨rfl, hone x (List.mem_of_getElem? q3)⟩
  ·cases hl
 ·cases hl

def AMk (g : Option (Nat × Bool)) (d : Option Tmp) (N : Nat) (x : Option (Prop × TypeId × Nat × Nat × List AV)) (K : Tmp → TypeId → Nat → Nat → List AV → Prop) : Prop := match g, d, x with
 | none, some d, some (p, e, z, n, zc) => (p ∧ d < N) ∧ K d e z n zc
 | _, _, _ => False
theorem AMk_some (d N : Nat) (p : Prop) (e : TypeId) (z n : Nat) (zc : List AV) (K : Tmp → TypeId → Nat → Nat → List AV → Prop) : AMk none (some d) N (some (p, e, z, n, zc)) K = ((p ∧ d < N) ∧ K d e z n zc) := rfl
@[congr] theorem AMk_congr {g : Option (Nat × Bool)} {d : Option Tmp} {N N' : Nat} {x x' : Option (Prop × TypeId × Nat × Nat × List AV)} {K : Tmp → TypeId → Nat → Nat → List AV → Prop} (h : N = N') (k : x = x') : AMk g d N x K = AMk g d N' x' K := by rw [h, k]
def ADrawM (P : Program) (all tail : List Oper) : List Oper → Nat → AS → List MkR → List Tmp → (AS → Prop) → Prop
 | [], _, s, ms, ds, Q => ATail P all tail (mkDone ⟨calT ds s.t, s.o, s.y⟩ ms) Q
 | oo :: rest, k, s, ms, ds, Q => match oo.op with
  | .makeSlice T n c => AMk oo.guard oo.dst s.t.length (aMkS P T (s.ev n) (s.ev c)) (fun d e z l zc => ADrawM P all tail rest (k + 1) (s.put (some d) .undef s.o) (ms ++ [⟨d, k, e, z, l, zc, false⟩]) ds Q)
  | .alloc T => AMk oo.guard oo.dst s.t.length (aAlS P T) (fun d e z l zc => ADrawM P all tail rest (k + 1) (s.put (some d) .undef s.o) (ms ++ [⟨d, k, e, z, l, zc, true⟩]) ds Q)
  | _ => match oo.guard with
   | none => ADoS P oo.op s (fun r => ADrawM P all tail rest (k + 1) (s.put oo.dst r s.o) ms (oo.dst.toList ++ ds) Q)
   | some (j, want) => AGd (gval all s j) want (ADoS P oo.op s (fun r => ADrawM P all tail rest (k + 1) (s.put oo.dst r s.o) ms (oo.dst.toList ++ ds) Q)) (ADrawM P all tail rest (k + 1) (s.put oo.dst (.v Go.undef) s.o) ms (oo.dst.toList ++ ds) Q)

structure MInv (l : List Oper) (s : AS) (a : Act) (k : Nat) (sk : AS) (rs : List (AV × Option MkR)) (A : (Nat → Value) → Act) (ms : List MkR) (ds : List Tmp) : Prop extends DInv l s a k sk (rs.map Prod.fst) A where
 row : ∀ m, m ∈ ms → m.k < k ∧ rs[m.k]? = some (.undef, some m) ∧ (∃ oi, l[m.k]? = some oi ∧ oi.dst = some m.d) ∧ ∀ x, (A x).tmps[m.d]? = some (x m.k)
 nod : (ms.map MkR.k).Nodup
 rowU : ∀ (i : Nat) r m, rs[i]? = some (r, some m) → r = .undef
 dst : ∀ (i : Nat) (oi : Oper) d r, i < k → l[i]? = some oi → oi.dst = some d → rs[i]? = some (r, none) → d ∈ ds

/-! ### a call that is given own rows: they are let go, and stay -/
def aGive : List (Option AObj) → List AV → Option (Prop × List AV × List (Option AObj))
 | o, [] => some (True, [], o)
 | o, .vec id len :: l => match o[id]? with
  | some (some ob) => match aGive (o.set id none) l with
   | some (p, m, o') => some ((ob.isV = true ∧ ob.rows.length = len ∧ wfR 0 ob.rows = true) ∧ p, .slc ob.z ob.rows len :: m, o')
   | none => none
  | _ => none
 | o, a :: l => match aGive o l with
  | some (p, m, o') => some (a.wf 0 = true ∧ p, a :: m, o')
  | none => none
theorem give_good : ∀ (args : List AV) {o : List (Option AObj)} {p : Prop} {args' : List AV} {o' : List (Option AObj)}, aGive o args = some (p, args', o') → p → RO D nu o w → Mono nu o w nu o' w ∧ RO D nu o' w ∧ args.length = args'.length ∧
  ∀ (i : Nat) a b x, args[i]? = some a → args'[i]? = some b → RA D nu o w a x → RA D nu o' w b x
 | [], o, p, args', o', he, hp, h => by
  simp only [aGive, Option.some.injEq, Prod.mk.injEq] at he
  obtain ⟨rfl, rfl, rfl⟩ := he
  exact ⟨.refl _ _ _, h, rfl, fun i a b x h => by simp at h⟩
 | a :: l, o, p, args', o', he, hp, h => by
  have plain : (match aGive o l with
   | some (p, m, o') => some (a.wf 0 = true ∧ p, a :: m, o')
   | none => none) = some (p, args', o') → Mono nu o w nu o' w ∧ RO D nu o' w ∧ (a :: l).length = args'.length ∧ ∀ (i : Nat) c b x, (a :: l)[i]? = some c → args'[i]? = some b → RA D nu o w c x → RA D nu o' w b x := fun he => by
   cases hg : aGive o l with
   | none => rw [hg] at he; cases he
   | some y =>
    obtain ⟨q, m, o2⟩ := y
    rw [hg] at he
    simp only [Option.some.injEq, Prod.mk.injEq] at he
    obtain ⟨rfl, rfl, rfl⟩ := he
    obtain ⟨k1, k2, k3, k4⟩ := give_good l hg hp.2 h
    refine ⟨k1, k2, by simp [k3], fun i c b x q1 q2 hr => ?_⟩
    cases i with
    | zero => simp at q1 q2; subst q1; subst q2; exact hr.mono k1 (fun _ _ h => h)
    | succ i => exact k4 i c b x (by simpa using q1) (by simpa using q2) hr
  cases a with
  | vec id len =>
   simp only [aGive] at he
   split at he
   ·rename_i ob ho
    cases hg : aGive (o.set id none) l with
    | none => rw [hg] at he; cases he
    | some y =>
     obtain ⟨q, m, o2⟩ := y
     rw [hg] at he
     simp only [Option.some.injEq, Prod.mk.injEq] at he
     obtain ⟨rfl, rfl, rfl⟩ := he
     obtain ⟨⟨hv, rfl, hw⟩, hq⟩ := hp
     have hm := kill_mono (nu := nu) (o := o) (w := w) id
     obtain ⟨k1, k2, k3, k4⟩ := give_good l hg hq (kill_RO h id)
     refine ⟨hm.trans k1, k2, by simp [k3], fun i c b x q1 q2 hr => ?_⟩
     cases i with
     | zero =>
      simp at q1 q2; subst q1; subst q2
      cases hr
      exact (vec_slc h ho hv).mono k1 (fun _ _ h => h)
     | succ i => exact k4 i c b x (by simpa using q1) (by simpa using q2) (hr.mono hm (fun _ _ h => h))
   ·cases he
  | _ => exact plain he
theorem ACallV.give {f : FuncId} {args args' : List AV} {o' : List (Option AObj)} {r : AV} {p : Prop} {K : AV → List (Option AObj) → Prop} (h : Call1 P f args' r) (hz : aGive o args = some (p, args', o')) (hp : p) (k : K r o') : ACallV P f args o K := by
 refine .inr (.inr ⟨h.2.1, fun D nu w vargs hro hra => ?_⟩)
 obtain ⟨k1, k2, k3, k4⟩ := give_good args hz hp hro
 refine (call1_good h k2 ⟨by rw [← k3]; exact hra.len, fun i c x q1 q2 => ?_⟩).mono ?_
 ·have hi : i < args.length := by rw [k3]; exact (List.getElem?_eq_some_iff.1 q1).1
  exact k4 i _ c x (List.getElem?_eq_getElem hi) q1 (hra.at' i _ x (List.getElem?_eq_getElem hi) q2)
 ·rintro e w' ⟨v, rfl, hb, hr⟩
  exact ⟨v, nu, o', r, rfl, k1.trans (mono_below hb), k2.below hb, hr, k⟩
theorem turn_free {s : AS} (i id : Nat) {len : Nat} {ob : AObj} (hi : s.t[i]? = some (.vec id len)) (ho : s.o[id]? = some (some ob)) (hv : ob.isV = true) (hl : ob.rows.length = len) : Turn s (AS.mk (s.t.set i (.slc ob.z ob.rows len)) (s.o.set id none) s.y) := by
 intro f D nu a w hs
 have hm := kill_mono (nu := nu) (o := s.o) (w := w) id
 refine ⟨nu, hm, rfl, kill_RO hs.ro id, ⟨by simpa using hs.tm.len, fun j c x h1 h2 => ?_⟩, hs.dfr⟩
 by_cases hij : i = j
 ·subst hij
  rw [List.getElem?_set_self (List.getElem?_eq_some_iff.1 hi).1] at h1
  cases h1
  have hr := hs.tm.at' i _ x hi h2
  subst hl
  cases hr
  exact vec_slc hs.ro ho hv
 ·rw [List.getElem?_set_ne hij] at h1
  exact (hs.tm.at' j c x h1 h2).mono hm (fun _ _ h => h)
theorem stopR {n0 i : Nat} {ops : Array Oper} {d : Bool} {s : AS} {Q : AExit → AS → Prop} (h : AWp P n0 (.region i ops d) s Q) : AWp P n0 (.region i ops d) s Q := h
/-! ### its rules for the walk -/
theorem adrawM_al {all tail rest : List Oper} {d : Tmp} {T ty : TypeId} {pos : String} {aft : Array Edge} {k : Nat} {s : AS} {ms : List MkR} {ds : List Tmp} {Q : AS → Prop} (h : AMk none (some d) s.t.length (aAlS P T) (fun d e z l zc => ADrawM P all tail rest (k + 1) (s.put (some d) .undef s.o) (ms ++ [⟨d, k, e, z, l, zc, true⟩]) ds Q)) : ADrawM P all tail (⟨some d, .alloc T, ty, pos, aft, none⟩ :: rest) k s ms ds Q := h
theorem adrawM_mk {all tail rest : List Oper} {d : Tmp} {T ty : TypeId} {n c : Operand} {pos : String} {aft : Array Edge} {k : Nat} {s : AS} {ms : List MkR} {ds : List Tmp} {Q : AS → Prop} (h : AMk none (some d) s.t.length (aMkS P T (s.ev n) (s.ev c)) (fun d e z l zc => ADrawM P all tail rest (k + 1) (s.put (some d) .undef s.o) (ms ++ [⟨d, k, e, z, l, zc, false⟩]) ds Q)) : ADrawM P all tail (⟨some d, .makeSlice T n c, ty, pos, aft, none⟩ :: rest) k s ms ds Q := h
theorem adrawM_nil {all tail : List Oper} {k : Nat} {s : AS} {ms : List MkR} {ds : List Tmp} {Q : AS → Prop} (h : ATail P all tail (mkDone ⟨calT ds s.t, s.o, s.y⟩ ms) Q) : ADrawM P all tail [] k s ms ds Q := h
instance {all tail : List Oper} {k : Nat} {s : AS} {ms : List MkR} {ds : List Tmp} {Q : AS → Prop} : Stp (ADrawM P all tail [] k s ms ds Q) (ATail P all tail (mkDone ⟨calT ds s.t, s.o, s.y⟩ ms) Q) := ⟨adrawM_nil⟩
instance {all tail rest : List Oper} {d : Tmp} {T ty : TypeId} {n c : Operand} {pos : String} {aft : Array Edge} {k : Nat} {s : AS} {ms : List MkR} {ds : List Tmp} {Q : AS → Prop} : Stp (ADrawM P all tail (⟨some d, .makeSlice T n c, ty, pos, aft, none⟩ :: rest) k s ms ds Q)
 (AMk none (some d) s.t.length (aMkS P T (s.ev n) (s.ev c)) (fun d e z l zc => ADrawM P all tail rest (k + 1) (s.put (some d) .undef s.o) (ms ++ [⟨d, k, e, z, l, zc, false⟩]) ds Q)) := ⟨adrawM_mk⟩
instance {all tail rest : List Oper} {d : Tmp} {T ty : TypeId} {pos : String} {aft : Array Edge} {k : Nat} {s : AS} {ms : List MkR} {ds : List Tmp} {Q : AS → Prop} : Stp (ADrawM P all tail (⟨some d, .alloc T, ty, pos, aft, none⟩ :: rest) k s ms ds Q)
 (AMk none (some d) s.t.length (aAlS P T) (fun d e z l zc => ADrawM P all tail rest (k + 1) (s.put (some d) .undef s.o) (ms ++ [⟨d, k, e, z, l, zc, true⟩]) ds Q)) := ⟨adrawM_al⟩
end
attribute [go_sem] AMk_some aAlS MkR.av aMkS mkDone mkT calT AV.cal AV.flat MkR.ob Option.toList_some Option.toList_none
end Go.Proofs.YtmdkgajjekbanaaDoor
