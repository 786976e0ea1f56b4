/- The abstract walk: loads, stores. -/
import Derived.Test.YteihcfhdhkamfaaAbsB
namespace Go.Proofs.Yteihcfhdhkamfaa
open Go.RowKit

def tAgg (P : Program) (T : TypeId) : Option Bool := (P.underlying T).map fun | .struct _ => true | .array _ _ => true | _ => false
def tSize (P : Program) (T : TypeId) : Option Nat := (P.info? T).map (·.size)

theorem run_isAgg {P : Program} {T : TypeId} {b : Bool} (h : tAgg P T = some b) (w : World) : (isAgg T).run P w = .ok b w := by
  unfold tAgg at h
  cases hu : P.underlying T with
  | none => simp [hu] at h
  | some d =>
    rw [hu] at h
    unfold isAgg
    rw [Sem.run_bind, run_underlying hu w]
    cases d <;> simp_all
theorem run_sizeOf {P : Program} {T : TypeId} {n : Nat} (h : tSize P T = some n) (w : World) : (sizeOf T).run P w = .ok n w := by
  unfold tSize at h
  cases hu : P.info? T with
  | none => simp [hu] at h
  | some i =>
    rw [hu] at h
    simp at h
    subst h
    simp [sizeOf, typeInfo, hu]

/-- the cells at a place -/
def locCells (o : List (Option AObj)) : AV → Option (Prop × List AV)
  | .vp cs => some (True, cs)
  | .ptr id len z row off => match o[id]? with
    | some (some ob) => some (ob.hl = len ∧ ob.z = z, (ob.rows.getD row []).drop off)
    | _ => none
  | _ => none

theorem getD_some {α : Type} {l : List α} {i : Nat} {d x : α} (h : l[i]? = some x) : l.getD i d = x := by simp [List.getD, h]

section
variable {D : Nat → Prop} {nu : Nat → Nat → Value} {o : List (Option AObj)} {w : World}

theorem ROb.curLt {id : Nat} {ob : AObj} {g : Nat} {cur : Array Value} (h : ROb D nu o w id ob g cur) {i j : Nat} {row : List AV} (hi : ob.rows[i]? = some row) (hj : j < row.length) : i * ob.z + j < cur.size := by
  have hz := h.row i row hi
  have hi' := (List.getElem?_eq_some_iff.1 hi).1
  have key : ∀ n, i < n → n * ob.z ≤ cur.size → i * ob.z + j < cur.size := fun n h1 h2 => by
    have : (i + 1) * ob.z ≤ n * ob.z := Nat.mul_le_mul_right _ h1
    rw [Nat.add_mul, Nat.one_mul] at this
    omega
  cases hv : ob.isV
  · obtain ⟨_, h2, h3⟩ := h.box hv
    exact key 1 (by omega) (by omega)
  · obtain ⟨cap, _, h2, _, h4⟩ := h.vec hv
    exact key cap (by omega) (by omega)

theorem loc_read (h : RO D nu o w) {a : AV} {x : Value} (hr : RA D nu o w a x) {p : Prop} {cs : List AV} (hl : locCells o a = some (p, cs)) (hp : p) :
    ∃ (b off : Nat) (f : Nat → Value), x = .pointer (some ⟨b, off, none⟩) ∧ (∀ (j : Nat) c, cs[j]? = some c → w.cell? ⟨b, off + j, none⟩ = some (f j) ∧ RA D nu o w c (f j) ∧ (f j).oneCell' = true) := by
  cases a with
  | vp cs' =>
    simp only [locCells, Option.some.injEq, Prod.mk.injEq] at hl
    obtain ⟨_, rfl⟩ := hl
    cases hr with
    | vp _ b off f h1 h2 h3 h4 => exact ⟨b, off, f, rfl, fun j c hc => ⟨h2 j c hc, h3 j c hc, h4 j c hc⟩⟩
  | ptr id len z row off =>
    simp only [locCells] at hl
    split at hl
    · rename_i ob ho
      simp only [Option.some.injEq, Prod.mk.injEq] at hl
      obtain ⟨rfl, rfl⟩ := hl
      obtain ⟨rfl, rfl⟩ := hp
      cases hr with
      | ptr _ _ _ _ _ b h1 h2 =>
        rcases h.obj id ob ho with ⟨e1, e2, e3⟩ | ⟨g, cur, hb⟩
        · simp only [AObj.hl, e1, e2, if_true, List.length_nil, e3, blkOf] at h2; cases h2
        · rw [hb.blkEq] at h2; cases h2
          refine ⟨b, _, fun j => cur.getD (row * ob.z + off + j) Go.undef, rfl, fun j c hc => ?_⟩
          cases hrow : ob.rows[row]? with
          | none => simp [List.getD, hrow] at hc
          | some rw' =>
            rw [getD_some hrow, List.getElem?_drop] at hc
            have hlt := hb.curLt hrow (List.getElem?_eq_some_iff.1 hc).1
            have hx : cur[row * ob.z + (off + j)]? = some cur[row * ob.z + (off + j)] := Array.getElem?_eq_getElem hlt
            have e : cur.getD (row * ob.z + off + j) Go.undef = cur[row * ob.z + (off + j)] := by
              rw [show row * ob.z + off + j = row * ob.z + (off + j) by omega]
              simp [Array.getD, hlt]
            simp only [e]
            refine ⟨?_, hb.cell row (off + j) rw' c _ hrow hc hx, hb.one row (off + j) rw' c _ hrow hc hx⟩
            have := hb.blk
            rw [show row * ob.z + off + j = row * ob.z + (off + j) by omega]
            simp [World.cell?, this, hx]
    · cases hl
  | _ => cases hl

def aLoad (P : Program) (T : TypeId) (o : List (Option AObj)) (a : AV) : Option (Prop × AV) :=
  match tAgg P T, tSize P T, locCells o a with
  | some true, some n, some (p, cs) => some (p ∧ n ≤ cs.length, .agg (cs.take n))
  | some false, _, some (p, c :: _) => some (p, c)
  | _, _, _ => none

theorem good_load {P : Program} {T : TypeId} (h : RO D nu o w) {a : AV} {x : Value} (hr : RA D nu o w a x) {p : Prop} {r : AV} (hl : aLoad P T o a = some (p, r)) (hp : p) :
    ∃ v, (Instr.loadAt T x).run P w = .ok v w ∧ RA D nu o w r v := by
  unfold aLoad at hl
  split at hl
  · rename_i n p' cs e1 e2 e3
    simp only [Option.some.injEq, Prod.mk.injEq] at hl
    obtain ⟨rfl, rfl⟩ := hl
    obtain ⟨b, off, f, rfl, hf⟩ := loc_read h hr e3 hp.1
    have hcell : ∀ j, j < n → w.cell? ((⟨b, off, none⟩ : Addr).add j) = some (f j) := fun j hj => by
      rw [Addr.add_lit]
      exact (hf j cs[j] (List.getElem?_eq_getElem (by omega))).1
    refine ⟨_, by simp only [Instr.loadAt, Instr.sureAddr, loadVar, Sem.run_bind, Sem.run_pure, Result.andThen_ok, run_isAgg e1, if_true, run_sizeOf e2, run_loadCells w _ n f hcell]; rfl, ?_⟩
    refine .agg _ _ (by simp; omega) (fun i c x h1 h2 => ?_) (fun i x h2 => ?_)
    · rw [List.getElem?_take] at h1
      split at h1
      · simp only [List.getElem?_toArray, List.getElem?_map] at h2
        rw [List.getElem?_range ‹_›] at h2
        simp at h2; subst h2
        exact (hf i c h1).2.1
      · cases h1
    · simp only [List.getElem?_toArray, List.getElem?_map] at h2
      rcases Nat.lt_or_ge i n with hlt | hge
      · rw [List.getElem?_range hlt] at h2
        simp at h2; subst h2
        exact (hf i cs[i] (List.getElem?_eq_getElem (by omega))).2.2
      · rw [List.getElem?_eq_none (by simp; omega)] at h2; cases h2
  · rename_i p' c rest e1 e3
    simp only [Option.some.injEq, Prod.mk.injEq] at hl
    obtain ⟨rfl, rfl⟩ := hl
    obtain ⟨b, off, f, rfl, hf⟩ := loc_read h hr e3 hp
    obtain ⟨h1, h2, _⟩ := hf 0 c rfl
    refine ⟨f 0, ?_, h2⟩
    simp only [Instr.loadAt, Instr.sureAddr, loadVar, Sem.run_bind, Sem.run_pure, Result.andThen_ok, run_isAgg e1, Bool.false_eq_true, if_false, run_load]
    simp only [Nat.add_zero] at h1
    rw [h1]
  · cases hl

/-! ### an object is written -/
def spl (row : List AV) (off : Nat) (cs : List AV) : List AV := row.take off ++ cs ++ row.drop (off + cs.length)

theorem set_mono {w' : World} {id : Nat} {ob ob' : AObj} (ho : o[id]? = some (some ob)) (hl : ob'.hl = ob.hl) {g : Nat} (hg : blkOf (nu id ob.hl) = some g)
    (h1 : w'.os = w.os) (h2 : w'.tape = w.tape) (h3 : w'.output = w.output) (h4 : w'.heap.size = w.heap.size) (h5 : ∀ b, b ≠ g → w'.heap[b]? = w.heap[b]?) : Mono nu o w nu (o.set id (some ob')) w' := by
  have hlt := (List.getElem?_eq_some_iff.1 ho).1
  refine ⟨h1, h2, h3, by omega, fun id' len hh => ⟨?_, rfl⟩, fun b hb hno => ⟨h5 b (fun e => hno ⟨id, ob, ho, by rw [e]; exact hg⟩), ?_⟩⟩
  · obtain ⟨x, k1, k2⟩ := hh
    by_cases he : id = id'
    · subst he
      rw [ho] at k1; cases k1
      exact ⟨some ob', by simp [hlt], fun x hx => by cases hx; rw [hl]; exact k2 ob rfl⟩
    · exact ⟨x, by rw [List.getElem?_set_ne he]; exact k1, k2⟩
  · rintro ⟨id', ob'', k1, k2⟩
    by_cases he : id = id'
    · subst he
      rw [List.getElem?_set_self hlt] at k1; cases k1
      rw [hl] at k2
      exact hno ⟨id, ob, ho, k2⟩
    · rw [List.getElem?_set_ne he] at k1
      exact hno ⟨id', ob'', k1, k2⟩

theorem set_RO {w' : World} {id : Nat} {ob ob' : AObj} (h : RO D nu o w) (ho : o[id]? = some (some ob)) (hl : ob'.hl = ob.hl) {g : Nat} (hg : blkOf (nu id ob.hl) = some g)
    (hm : Mono nu o w nu (o.set id (some ob')) w') (h5 : ∀ b, b ≠ g → w'.heap[b]? = w.heap[b]?) {cur : Array Value} (hn : ROb D nu (o.set id (some ob')) w' id ob' g cur) : RO D nu (o.set id (some ob')) w' := by
  have hlt := (List.getElem?_eq_some_iff.1 ho).1
  refine ⟨?_, fun b hb => h.up b (Nat.le_trans hm.size hb), ?_⟩
  · intro id' ob'' k1
    by_cases he : id = id'
    · subst he
      rw [List.getElem?_set_self hlt] at k1; cases k1
      exact .inr ⟨g, cur, hn⟩
    · rw [List.getElem?_set_ne he] at k1
      rcases h.obj id' ob'' k1 with e | ⟨g', cur', hr⟩
      · exact .inl e
      · have hne : g' ≠ g := fun e => h.sep id id' ob ob'' g ho k1 he hg (by rw [← e]; exact hr.blkEq)
        exact .inr ⟨g', cur', (h5 g' hne).trans hr.blk, hr.dom, hr.box, hr.vec, hr.z, hr.row, fun i j row c x q1 q2 q3 => (hr.cell i j row c x q1 q2 q3).mono hm (fun _ _ h => h), hr.one⟩
  · intro i1 i2 b1 b2 b k1 k2 hne k3
    have key : ∀ (id' : Nat) (ob'' : AObj), (o.set id (some ob'))[id']? = some (some ob'') → ∃ ob3 : AObj, o[id']? = some (some ob3) ∧ ob3.hl = ob''.hl := fun id' ob'' q => by
      by_cases he : id = id'
      · subst he
        rw [List.getElem?_set_self hlt] at q; cases q
        exact ⟨ob, ho, hl.symm⟩
      · rw [List.getElem?_set_ne he] at q; exact ⟨ob'', q, rfl⟩
    obtain ⟨o1, m1, n1⟩ := key i1 b1 k1
    obtain ⟨o2, m2, n2⟩ := key i2 b2 k2
    rw [← n2]
    rw [← n1] at k3
    exact h.sep i1 i2 o1 o2 b m1 m2 hne k3

theorem good_write (P : Program) (h : RO D nu o w) {id row off : Nat} {ob : AObj} (ho : o[id]? = some (some ob)) {rw' : List AV} (hrow : ob.rows[row]? = some rw') {cs : List AV} {xs : Array Value} (hc : RCs D nu o w cs xs) (hfit : off + cs.length ≤ rw'.length)
    {b : Nat} (hb : blkOf (nu id ob.hl) = some b) :
    ∃ w', (storeCells ⟨b, row * ob.z + off, none⟩ xs.toList).run P w = .ok () w' ∧ Mono nu o w nu (o.set id (some { ob with rows := ob.rows.set row (spl rw' off cs) })) w' ∧ RO D nu (o.set id (some { ob with rows := ob.rows.set row (spl rw' off cs) })) w' := by
  rcases h.obj id ob ho with ⟨e1, e2, e3⟩ | ⟨g, cur, hr⟩
  · rw [e2] at hrow; simp at hrow
  · have hbg : b = g := by have := hr.blkEq; rw [hb] at this; cases this; rfl
    subst hbg
    have hz := hr.row row rw' hrow
    have hlenrow := (List.getElem?_eq_some_iff.1 hrow).1
    have hend : row * ob.z + off + cs.length ≤ cur.size := by
      rcases Nat.eq_zero_or_pos (off + cs.length) with h0 | h0
      · rcases Nat.eq_zero_or_pos rw'.length with h1 | h1
        · have := hr.z; omega
        · have := hr.curLt hrow (j := 0) (by omega); omega
      · have := hr.curLt hrow (j := off + cs.length - 1) (by omega); omega
    have hst := run_storeCells_at P b (row * ob.z + off) ob.T xs.toList 0 cur w hr.blk (by have := hc.len; simp; omega) (fun v hv => by
      obtain ⟨i, hi⟩ := List.getElem?_of_mem hv
      exact hc.one i v (by simpa using hi))
    have hh : ob.hl = ({ ob with rows := ob.rows.set row (spl rw' off cs) } : AObj).hl := by simp [AObj.hl]
    have hne : ∀ k, k ≠ b → (w.setRow b (cur.toList.take (row * ob.z + off + 0) ++ xs.toList ++ cur.toList.drop (row * ob.z + off + 0 + xs.toList.length)).toArray).heap[k]? = w.heap[k]? := fun k hk => setRow_other w b k _ hk
    have hsz : (w.setRow b (cur.toList.take (row * ob.z + off + 0) ++ xs.toList ++ cur.toList.drop (row * ob.z + off + 0 + xs.toList.length)).toArray).heap.size = w.heap.size := by simp [World.setRow]
    have hm := set_mono (nu := nu) (o := o) (w := w) (w' := w.setRow b (cur.toList.take (row * ob.z + off + 0) ++ xs.toList ++ cur.toList.drop (row * ob.z + off + 0 + xs.toList.length)).toArray) (ob' := { ob with rows := ob.rows.set row (spl rw' off cs) }) ho hh.symm hr.blkEq rfl rfl rfl hsz hne
    refine ⟨_, hst, hm, set_RO h ho hh.symm hr.blkEq hm hne (cur := (cur.toList.take (row * ob.z + off + 0) ++ xs.toList ++ cur.toList.drop (row * ob.z + off + 0 + xs.toList.length)).toArray) ?_⟩
    have hlx : xs.toList.length = cs.length := by have := hc.len; simp; omega
    have hspl : (spl rw' off cs).length = rw'.length := by simp [spl]; omega
    have hcs : (cur.toList.take (row * ob.z + off + 0) ++ xs.toList ++ cur.toList.drop (row * ob.z + off + 0 + xs.toList.length)).toArray.size = cur.size := by
      simp only [List.size_toArray, List.length_append, List.length_take, List.length_drop, Array.length_toList] at *; omega
    have key : ∀ (i j : Nat) r c x, (ob.rows.set row (spl rw' off cs))[i]? = some r → r[j]? = some c → (cur.toList.take (row * ob.z + off + 0) ++ xs.toList ++ cur.toList.drop (row * ob.z + off + 0 + xs.toList.length)).toArray[i * ob.z + j]? = some x →
        (∃ r', ob.rows[i]? = some r' ∧ r'[j]? = some c ∧ cur[i * ob.z + j]? = some x) ∨ (∃ k : Nat, cs[k]? = some c ∧ xs[k]? = some x) := by
      intro i j r c x k1 k2 k3
      rw [List.getElem?_toArray, List.append_assoc] at k3
      simp only [Nat.add_zero, hlx] at k3
      have hlt1 : (cur.toList.take (row * ob.z + off)).length = row * ob.z + off := by simp only [List.length_take, Array.length_toList]; omega
      have outside : (i * ob.z + j < row * ob.z + off ∨ row * ob.z + off + cs.length ≤ i * ob.z + j) → cur[i * ob.z + j]? = some x := by
        rintro (hlt | hge)
        · rw [List.getElem?_append_left (by omega), List.getElem?_take_of_lt hlt] at k3
          simpa using k3
        · rw [List.getElem?_append_right (by omega), hlt1, List.getElem?_append_right (by omega), hlx, List.getElem?_drop] at k3
          rw [show row * ob.z + off + cs.length + (i * ob.z + j - (row * ob.z + off) - cs.length) = i * ob.z + j by omega] at k3
          simpa using k3
      by_cases hi : row = i
      · subst hi
        rw [List.getElem?_set_self hlenrow] at k1; cases k1
        simp only [spl, List.append_assoc] at k2
        have hlt2 : (rw'.take off).length = off := by simp; omega
        rcases Nat.lt_or_ge j off with hj | hj
        · rw [List.getElem?_append_left (by omega), List.getElem?_take_of_lt hj] at k2
          exact .inl ⟨rw', hrow, k2, outside (.inl (by omega))⟩
        · rw [List.getElem?_append_right (by omega), hlt2] at k2
          rcases Nat.lt_or_ge (j - off) cs.length with hj2 | hj2
          · rw [List.getElem?_append_left hj2] at k2
            rw [List.getElem?_append_right (by omega), hlt1, List.getElem?_append_left (by omega)] at k3
            rw [show row * ob.z + j - (row * ob.z + off) = j - off by omega] at k3
            exact .inr ⟨j - off, k2, by simpa using k3⟩
          · rw [List.getElem?_append_right hj2, List.getElem?_drop] at k2
            rw [show off + cs.length + (j - off - cs.length) = j by omega] at k2
            exact .inl ⟨rw', hrow, k2, outside (.inr (by omega))⟩
      · rw [List.getElem?_set_ne hi] at k1
        refine .inl ⟨r, k1, k2, outside ?_⟩
        have hj := (List.getElem?_eq_some_iff.1 k2).1
        have hrz := hr.row i r k1
        rcases Nat.lt_or_gt_of_ne hi with hlt | hgt
        · right
          have : (row + 1) * ob.z ≤ i * ob.z := Nat.mul_le_mul_right _ hlt
          rw [Nat.add_mul, Nat.one_mul] at this
          omega
        · left
          have : (i + 1) * ob.z ≤ row * ob.z := Nat.mul_le_mul_right _ hgt
          rw [Nat.add_mul, Nat.one_mul] at this
          omega
    refine ⟨setRow_heap w b cur _ ob.T (0, 0) hr.blk, hr.dom, fun hv => ?_, fun hv => ?_, hr.z, fun i r hi => ?_, fun i j r c x k1 k2 k3 => ?_, fun i j r c x k1 k2 k3 => ?_⟩
    · obtain ⟨q1, q2, q3⟩ := hr.box hv
      exact ⟨q1, by simpa using q2, hcs.trans q3⟩
    · obtain ⟨cap, q1, q2, q3, q4⟩ := hr.vec hv
      exact ⟨cap, by simpa using q1, by simpa using q2, q3, hcs.trans q4⟩
    · by_cases he : row = i
      · subst he
        rw [List.getElem?_set_self hlenrow] at hi; cases hi
        exact hspl.trans hz
      · rw [List.getElem?_set_ne he] at hi; exact hr.row i r hi
    · rcases key i j r c x k1 k2 k3 with ⟨r', q1, q2, q3⟩ | ⟨k, q1, q2⟩
      · exact (hr.cell i j r' c x q1 q2 q3).mono hm (fun _ _ h => h)
      · exact (hc.at' k c x q1 q2).mono hm (fun _ _ h => h)
    · rcases key i j r c x k1 k2 k3 with ⟨r', q1, q2, q3⟩ | ⟨k, q1, q2⟩
      · exact hr.one i j r' c x q1 q2 q3
      · exact hc.one k x q2

def aStore (P : Program) (T : TypeId) (o : List (Option AObj)) (a x : AV) : Option (Prop × List (Option AObj)) :=
  match a, tSize P T, x.cells? with
  | .ptr id len z row off, some n, some cs => match o[id]? with
    | some (some ob) => some ((ob.hl = len ∧ ob.z = z ∧ row < ob.rows.length) ∧ cs.length = n ∧ off + cs.length ≤ (ob.rows.getD row []).length, o.set id (some { ob with rows := ob.rows.set row (spl (ob.rows.getD row []) off cs) }))
    | _ => none
  | _, _, _ => none

theorem good_store {P : Program} {T : TypeId} (h : RO D nu o w) {a b : AV} {x y : Value} (hr : RA D nu o w a x) (hs : RA D nu o w b y) {p : Prop} {o' : List (Option AObj)} (hl : aStore P T o a b = some (p, o')) (hp : p) :
    ∃ w', (Instr.storeAt T x y).run P w = .ok () w' ∧ Mono nu o w nu o' w' ∧ RO D nu o' w' := by
  unfold aStore at hl
  split at hl
  · rename_i id len z row off n cs e1 e2
    split at hl
    · rename_i ob ho
      simp only [Option.some.injEq, Prod.mk.injEq] at hl
      obtain ⟨rfl, rfl⟩ := hl
      obtain ⟨⟨rfl, rfl, hlt⟩, rfl, hfit⟩ := hp
      have hrow : ob.rows[row]? = some ob.rows[row] := List.getElem?_eq_getElem hlt
      rw [getD_some hrow] at hfit ⊢
      cases hr with
      | ptr _ _ _ _ _ bk h1 h2 =>
        have hc := hs.one e2
        obtain ⟨w', k1, k2, k3⟩ := good_write P h ho hrow hc hfit h2
        refine ⟨w', ?_, k2, k3⟩
        have hsz : y.cells.size = cs.length := hc.len.symm
        simp only [Instr.storeAt, Instr.sureAddr, storeVar, Sem.run_bind, Sem.run_pure, Result.andThen_ok, run_sizeOf e1, hsz, ne_eq, not_true_eq_false, if_false, k1]
    · cases hl
  · cases hl

end
end Go.Proofs.Yteihcfhdhkamfaa
