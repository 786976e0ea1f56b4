/- The abstract walk: rows that are made, places, parts. -/
import Derived.Laws.Tables
import Derived.Laws.StructEq
import Derived.Test.YteihcfhdhkamfaaAbsD
namespace Go.Proofs.Yteihcfhdhkamfaa
open Go.RowKit

section
variable {D : Nat → Prop} {nu : Nat → Nat → Value} {o : List (Option AObj)} {w : World}

/-- rows lie in cur -/
structure Grid (D : Nat → Prop) (nu : Nat → Nat → Value) (o : List (Option AObj)) (w : World) (z : Nat) (rows : List (List AV)) (cur : Array Value) : Prop where
  row : ∀ (i : Nat) row, rows[i]? = some row → row.length = z
  cell : ∀ (i j : Nat) row c, rows[i]? = some row → row[j]? = some c → ∃ x, cur[i * z + j]? = some x ∧ RA D nu o w c x ∧ x.oneCell' = true

theorem good_newvec (h : RO D nu o w) (e : TypeId) {z : Nat} (hz : 0 < z) {rows : List (List AV)} {cur : Array Value} {cap : Nat} (hg : Grid D nu o w z rows cur) (h1 : rows.length ≤ cap) (h2 : cap ≤ maxLen) (h3 : cur.size = cap * z) :
    Good D nu o w (.ok (.slice (some ⟨w.heap.size, 0, none⟩) rows.length cap) (w.alloc (.cells cur e))) (.vec o.length rows.length) (o ++ [some ⟨e, z, true, rows⟩]) := by
  have hb : Below w.heap.size w (w.alloc (.cells cur e)) := (Below.refl _ _).alloc (Nat.le_refl _) _
  have hv : ∀ b, blkOf (Value.slice (some ⟨w.heap.size, 0, none⟩) rows.length cap) = some b → w.heap.size ≤ b := fun b e => by cases e; exact Nat.le_refl _
  have hm := push_mono (nu := nu) (o := o) (ob := ⟨e, z, true, rows⟩) hb hv
  refine ⟨_, _, updN nu o.length (.slice (some ⟨w.heap.size, 0, none⟩) rows.length cap), rfl, hm, push_RO h hb hv (.inr ⟨w.heap.size, cur, heap_alloc_new w _, h.up _ (Nat.le_refl _), fun e' => (by cases e'), fun _ => ⟨cap, updN_new _ _ _ _, h1, h2, h3⟩, hz, hg.row, fun i j row c x q1 q2 q3 => ?_, fun i j row c x q1 q2 q3 => ?_⟩), ?_⟩
  · obtain ⟨y, y1, y2, _⟩ := hg.cell i j row c q1 q2
    rw [y1] at q3; cases q3
    exact y2.mono hm (fun _ _ h => h)
  · obtain ⟨y, y1, _, y3⟩ := hg.cell i j row c q1 q2
    rw [y1] at q3; cases q3
    exact y3
  · have := RA.vec (D := D) (nu := updN nu o.length (.slice (some ⟨w.heap.size, 0, none⟩) rows.length cap)) (o := o ++ [some ⟨e, z, true, rows⟩]) (w := w.alloc (.cells cur e)) o.length rows.length
      ⟨_, List.getElem?_concat_length, fun x hx => by cases hx; exact Nat.le_refl _⟩ (by rw [updN_new]; rfl)
    rw [updN_new] at this
    exact this

/-- the zero of a type, cell by cell -/
def tZero (P : Program) (e : TypeId) : Option (List AV) := match P.info? e with
  | some i => match i.zero with
    | some zv => if zv.cells.toList.all (·.oneCell') then some (zv.cells.toList.map AV.v) else none
    | none => none
  | none => none
theorem tZero_spec {P : Program} {e : TypeId} {cs : List AV} (h : tZero P e = some cs) : ∃ i zv, P.info? e = some i ∧ i.zero = some zv ∧ cs = zv.cells.toList.map AV.v ∧ ∀ x ∈ zv.cells.toList, x.oneCell' = true := by
  unfold tZero at h
  split at h
  · rename_i i hi
    split at h
    · rename_i zv hz
      split at h
      · rename_i ha
        cases h
        exact ⟨i, zv, hi, hz, rfl, fun x hx => List.all_eq_true.1 ha x hx⟩
      · cases h
    · cases h
  · cases h

theorem zero_cs (zv : Value) (h1 : ∀ x ∈ zv.cells.toList, x.oneCell' = true) : RCs D nu o w (zv.cells.toList.map AV.v) zv.cells :=
  ⟨⟨by simp, fun i c x hc hx => by
    rw [List.getElem?_map] at hc
    have : zv.cells.toList[i]? = some x := by simpa using hx
    rw [this] at hc; cases hc; exact .v x⟩, fun i x hx => h1 x (List.mem_of_getElem? (show zv.cells.toList[i]? = some x by simpa using hx))⟩

def aMake (P : Program) (T : TypeId) (o : List (Option AObj)) (n c : AV) : Option (Prop × AV × List (Option AObj)) :=
  match P.underlying T, n, c with
  | some (.slice e), .v (.int _ l), .v (.int _ m) => match tApp P T, tZero P e with
    | some (_, z, bytes), some zr => some (0 ≤ l ∧ l ≤ m ∧ m.toNat * bytes ≤ 140737488355328 ∧ m.toNat ≤ 140737488355328, .vec o.length l.toNat, o ++ [some ⟨e, z, true, List.replicate l.toNat zr⟩])
    | _, _ => none
  | _, _, _ => none

theorem good_make {P : Program} {T : TypeId} (h : RO D nu o w) {n c : AV} {x y : Value} (hx : RA D nu o w n x) (hy : RA D nu o w c y) {p : Prop} {r : AV} {o' : List (Option AObj)} (hl : aMake P T o n c = some (p, r, o')) (hp : p) :
    Good D nu o w ((Instr.makeSlice T x y).run P w) r o' := by
  unfold aMake at hl
  split at hl
  · rename_i e kl l kc m hu
    split at hl
    · rename_i e2 z bytes zr ht hz
      simp only [Option.some.injEq, Prod.mk.injEq] at hl
      obtain ⟨rfl, rfl, rfl⟩ := hl
      obtain ⟨h1, h2, h3, h4⟩ := hp
      obtain ⟨hu', i, zv, hi, hzv, hzs, hz0, hsize, hbytes⟩ := tApp_spec ht
      rw [hu] at hu'; cases hu'
      obtain ⟨i', zv', hi', hzv', rfl, hone⟩ := tZero_spec hz
      rw [hi] at hi'; cases hi'
      rw [hzv] at hzv'; cases hzv'
      cases hx; cases hy
      have hr := run_make (P := P) w T e i zv hu hi hzv kl kc l m h1 h2 (by
        have : (i.bytes : Int) * m = ((m.toNat * i.bytes : Nat) : Int) := by
          rw [Int.natCast_mul, Int.toNat_of_nonneg (by omega), Int.mul_comm]
        rw [this, hbytes]; omega) (by omega)
      rw [hr]
      have hmod : ∀ i j : Nat, j < z → (i * z + j) % zv.cells.size = j := fun i j hj => by rw [hzs]; exact idx_mod hj
      have hg : Grid D nu o w z (List.replicate l.toNat (zv.cells.toList.map AV.v)) (madeCells zv.cells (m.toNat * i.size)) := by
        refine ⟨fun k row hk => ?_, fun k j row c hk hj => ?_⟩
        · rw [List.getElem?_replicate] at hk; split at hk <;> cases hk; simpa using hzs
        · rw [List.getElem?_replicate] at hk
          split at hk
          · rename_i hlt
            cases hk
            rw [List.getElem?_map] at hj
            cases hq : zv.cells.toList[j]? with
            | none => rw [hq] at hj; cases hj
            | some u =>
              rw [hq] at hj; cases hj
              have hjl : j < zv.cells.size := by have := (List.getElem?_eq_some_iff.1 hq).1; simpa using this
              refine ⟨u, ?_, .v u, hone u (List.mem_of_getElem? hq)⟩
              have hlt2 : k * z + j < m.toNat * i.size := by rw [hsize]; exact idx_lt (by omega) (by omega)
              simp only [madeCells, Array.getElem?_map, Array.getElem?_range, if_pos hlt2, Option.map_some]
              rw [hmod k j (by omega)]
              have : zv.cells[j]? = some u := by simpa using hq
              rw [getElem!_pos zv.cells j hjl, (Array.getElem?_eq_some_iff.1 this).2]
          · cases hk
      have := good_newvec h e hz0 hg (cap := m.toNat) (by simp; omega) (by unfold maxLen; omega) (by rw [size_madeCells, hsize])
      simpa using this
    · cases hl
  · cases hl

/-! ### parts put into cells -/
theorem foldl_put (off : Nat) : ∀ (xs : List Value) (s : Nat) (cells : Array Value) (k : Nat), off + s + xs.length ≤ cells.size →
    ((xs.zipIdx s).foldl (fun cs p => cs.setIfInBounds (off + p.2) p.1) cells)[k]? = if off + s ≤ k ∧ k < off + s + xs.length then xs[k - (off + s)]? else cells[k]?
  | [], s, cells, k, _ => by
    rw [if_neg (by simp only [List.length_nil]; omega)]; rfl
  | x :: xs, s, cells, k, h => by
    simp only [List.length_cons] at h
    rw [List.zipIdx_cons, List.foldl_cons, foldl_put off xs (s + 1) _ k (by simp; omega)]
    simp only [List.length_cons]
    by_cases h1 : off + (s + 1) ≤ k ∧ k < off + (s + 1) + xs.length
    · rw [if_pos h1, if_pos (by omega), show k - (off + s) = (k - (off + (s + 1))) + 1 by omega, List.getElem?_cons_succ]
    · rw [if_neg h1]
      by_cases h2 : k = off + s
      · subst h2
        rw [if_pos (by omega), Nat.sub_self, Array.getElem?_setIfInBounds_self_of_lt (by omega)]; rfl
      · rw [if_neg (by omega), Array.getElem?_setIfInBounds_ne (Ne.symm h2)]

theorem foldl_size (off : Nat) : ∀ (xs : List Value) (s : Nat) (cells : Array Value), ((xs.zipIdx s).foldl (fun cs p => cs.setIfInBounds (off + p.2) p.1) cells).size = cells.size
  | [], _, _ => rfl
  | x :: xs, s, cells => by rw [List.zipIdx_cons, List.foldl_cons, foldl_size off xs]; simp

theorem fold_arr (xs : Array Value) (off : Nat) (cells : Array Value) : xs.zipIdx.foldl (fun cs (c, j) => cs.setIfInBounds (off + j) c) cells = (xs.toList.zipIdx 0).foldl (fun cs p => cs.setIfInBounds (off + p.2) p.1) cells := by
  rw [← Array.foldl_toList, Array.toList_zipIdx]

/-- the parts of a struct, put in -/
def aFill (place : List (Nat × Nat)) (cells : List AV) : List (Nat × AV) → Option (List AV)
  | [] => some cells
  | (i, a) :: rest => match place[i]?, a.cells? with
    | some (off, size), some cs => if cs.length = size ∧ off + cs.length ≤ cells.length then aFill place (spl cells off cs) rest else none
    | _, _ => none

theorem spl_get {row cs : List AV} {off k : Nat} (h : off + cs.length ≤ row.length) : (spl row off cs)[k]? = if off ≤ k ∧ k < off + cs.length then cs[k - off]? else row[k]? := by
  have h1 : (row.take off).length = off := by simp; omega
  unfold spl
  by_cases hk : k < off
  · rw [if_neg (by omega), List.append_assoc, List.getElem?_append_left (by omega), List.getElem?_take_of_lt hk]
  · rw [List.append_assoc, List.getElem?_append_right (by omega), h1]
    by_cases h2 : k < off + cs.length
    · rw [if_pos (by omega), List.getElem?_append_left (by omega)]
    · rw [if_neg (by omega), List.getElem?_append_right (by omega), List.getElem?_drop]
      congr 1; omega

theorem fill_good (place : List (Nat × Nat)) : ∀ (ps : List (Nat × AV)) (vs : List (Nat × Value)) (cells : List AV) (cur : Array Value), ps.length = vs.length →
    (∀ (k : Nat) p q, ps[k]? = some p → vs[k]? = some q → p.1 = q.1 ∧ RA D nu o w p.2 q.2) → RCs D nu o w cells cur → ∀ {res : List AV}, aFill place cells ps = some res → ∃ ys, Instr.fill (place.toArray[·]?) cur vs = some ys ∧ RCs D nu o w res ys
  | [], [], cells, cur, _, _, hc, res, hf => by
    simp only [aFill, Option.some.injEq] at hf; subst hf
    exact ⟨cur, rfl, hc⟩
  | (i, a) :: ps, (j, v) :: vs, cells, cur, hl, hall, hc, res, hf => by
    obtain ⟨he, hr⟩ := hall 0 (i, a) (j, v) rfl rfl
    simp only at he hr
    subst he
    simp only [aFill] at hf
    split at hf
    · rename_i off size cs e1 e2
      split at hf
      · rename_i hcond
        have hcs := hr.one e2
        have hsz : v.cells.size = size := by rw [← hcs.len]; exact hcond.1
        have hcl := hc.len
        have hfit : off + v.cells.size ≤ cur.size := by rw [← hcs.len, ← hcl]; exact hcond.2
        have hlen : (spl cells off cs).length = cells.length := by simp [spl]; omega
        have hnew : RCs D nu o w (spl cells off cs) (v.cells.zipIdx.foldl (fun cs (c, j) => cs.setIfInBounds (off + j) c) cur) := by
          rw [fold_arr]
          have hget := fun k => foldl_put off v.cells.toList 0 cur k (by simpa using hfit)
          simp only [Nat.add_zero, Array.length_toList] at hget
          refine ⟨⟨by rw [hlen, foldl_size]; exact hcl, fun k c x h1 h2 => ?_⟩, fun k x h2 => ?_⟩
          · rw [spl_get hcond.2] at h1
            rw [hget k] at h2
            rw [hcs.len] at h1
            split at h1
            · rename_i hk
              rw [if_pos hk] at h2
              exact hcs.at' _ c x h1 (by simpa using h2)
            · rename_i hk
              rw [if_neg hk] at h2
              exact hc.at' k c x h1 h2
          · rw [hget k] at h2
            split at h2
            · exact hcs.one _ x (by simpa using h2)
            · exact hc.one k x h2
        obtain ⟨ys, h1, h2⟩ := fill_good place ps vs _ _ (by simpa using hl) (fun k p q h1 h2 => hall (k + 1) p q (by simpa using h1) (by simpa using h2)) hnew hf
        refine ⟨ys, ?_, h2⟩
        have e1' : place.toArray[i]? = some (off, size) := by simpa using e1
        simp only [Instr.fill, e1']
        rw [if_neg (by simp; omega)]
        exact h1
      · cases hf
    · cases hf
  | [], _ :: _, _, _, hl, _, _, _, _ => by simp at hl
  | _ :: _, [], _, _, hl, _, _, _, _ => by simp at hl

/-- the places of a struct's fields, and its zero -/
def tPl (P : Program) (T : TypeId) : Option (List (Nat × Nat) × List AV) :=
  match P.underlying T with
  | some (.struct fields) => match fields.toList.mapM (fun f => (P.info? f.type).map fun i => (f.offset, i.size)), tZero P T with
    | some pl, some z => some (pl, z)
    | _, _ => none
  | _ => none

def aBuild (P : Program) (T : TypeId) (parts : List (Nat × AV)) : Option AV := match tPl P T with
  | some (pl, z) => (aFill pl z parts).map AV.agg
  | none => none

theorem good_build {P : Program} {T : TypeId} {ps : List (Nat × AV)} {vs : Array (Nat × Value)} (hl : ps.length = vs.size) (hall : ∀ (k : Nat) p q, ps[k]? = some p → vs[k]? = some q → p.1 = q.1 ∧ RA D nu o w p.2 q.2) {r : AV} (hb : aBuild P T ps = some r) :
    ∃ v, (Instr.build T vs).run P w = .ok v w ∧ RA D nu o w r v := by
  unfold aBuild at hb
  split at hb
  · rename_i pl z ht
    unfold tPl at ht
    split at ht
    · rename_i fields hu
      split at ht
      · rename_i pl' z' h1 h2
        simp only [Option.some.injEq, Prod.mk.injEq] at ht
        obtain ⟨rfl, rfl⟩ := ht
        obtain ⟨i, zv, hi, hzv, rfl, hone⟩ := tZero_spec h2
        cases hf : aFill pl' (zv.cells.toList.map AV.v) ps with
        | none => rw [hf] at hb; cases hb
        | some res =>
          rw [hf] at hb; cases hb
          obtain ⟨ys, h3, h4⟩ := fill_good pl' ps vs.toList _ _ (by simpa using hl) (fun k p q a b => hall k p q a (by simpa using b)) (zero_cs zv hone) hf
          refine ⟨.agg ys, run_build w T vs ys ?_, .agg _ _ h4.len h4.at' h4.one⟩
          simp only [Program.built, hi, hu, hzv, h1]
          exact h3
      · cases ht
    · cases ht
  · cases hb

/-- the elements of a slice literal, put in -/
def aRows (z : Nat) (rows : List (List AV)) : List (Nat × AV) → Option (List (List AV))
  | [] => some rows
  | (i, a) :: rest => match a.cells? with
    | some cs => if cs.length = z ∧ i < rows.length then aRows z (rows.set i cs) rest else none
    | none => none

theorem rows_good {z : Nat} : ∀ (ps : List (Nat × AV)) (vs : List (Nat × Value)) (rows : List (List AV)) (cur : Array Value), ps.length = vs.length →
    (∀ (k : Nat) p q, ps[k]? = some p → vs[k]? = some q → p.1 = q.1 ∧ RA D nu o w p.2 q.2) → Grid D nu o w z rows cur → cur.size = rows.length * z → ∀ {res : List (List AV)}, aRows z rows ps = some res →
    ∃ ys, Instr.fill (fun i => some (i * z, z)) cur vs = some ys ∧ Grid D nu o w z res ys ∧ res.length = rows.length ∧ ys.size = cur.size
  | [], [], rows, cur, _, _, hc, _, res, hf => by
    simp only [aRows, Option.some.injEq] at hf; subst hf
    exact ⟨cur, rfl, hc, rfl, rfl⟩
  | (i, a) :: ps, (j, v) :: vs, rows, cur, hl, hall, hc, hsz, res, hf => by
    obtain ⟨he, hr⟩ := hall 0 (i, a) (j, v) rfl rfl
    simp only at he hr
    subst he
    simp only [aRows] at hf
    split at hf
    · rename_i cs e2
      split at hf
      · rename_i hcond
        have hcs := hr.one e2
        have hvs : v.cells.size = z := by rw [← hcs.len]; exact hcond.1
        have hfit : i * z + z ≤ cur.size := by
          rw [hsz]; have : (i + 1) * z ≤ rows.length * z := Nat.mul_le_mul_right _ hcond.2
          rw [Nat.add_mul, Nat.one_mul] at this; exact this
        have hnew : Grid D nu o w z (rows.set i cs) (v.cells.zipIdx.foldl (fun cs (c, j) => cs.setIfInBounds (i * z + j) c) cur) := by
          rw [fold_arr]
          have hget := fun k => foldl_put (i * z) v.cells.toList 0 cur k (by simp; omega)
          simp only [Nat.add_zero, Array.length_toList] at hget
          refine ⟨fun k row hk => ?_, fun k m row c h1 h2 => ?_⟩
          · by_cases hik : i = k
            · subst hik; rw [List.getElem?_set_self hcond.2] at hk; cases hk; exact hcond.1
            · rw [List.getElem?_set_ne hik] at hk; exact hc.row k row hk
          · by_cases hik : i = k
            · subst hik
              rw [List.getElem?_set_self hcond.2] at h1; cases h1
              have hm := (List.getElem?_eq_some_iff.1 h2).1
              have hx : v.cells[m]? = some v.cells[m] := Array.getElem?_eq_getElem (by omega)
              refine ⟨v.cells[m], ?_, hcs.at' m c _ h2 hx, hcs.one m _ hx⟩
              rw [hget, if_pos (by omega), show i * z + m - i * z = m by omega]
              simp
            · rw [List.getElem?_set_ne hik] at h1
              obtain ⟨x, q1, q2⟩ := hc.cell k m row c h1 h2
              refine ⟨x, ?_, q2⟩
              have hm := (List.getElem?_eq_some_iff.1 h2).1
              rw [hc.row k row h1] at hm
              rw [hget, if_neg, q1]
              rcases Nat.lt_or_gt_of_ne hik with hlt | hgt
              · have : (i + 1) * z ≤ k * z := Nat.mul_le_mul_right _ hlt
                rw [Nat.add_mul, Nat.one_mul] at this; omega
              · have : (k + 1) * z ≤ i * z := Nat.mul_le_mul_right _ hgt
                rw [Nat.add_mul, Nat.one_mul] at this; omega
        have hsz' : (v.cells.zipIdx.foldl (fun cs (c, j) => cs.setIfInBounds (i * z + j) c) cur).size = cur.size := by rw [fold_arr, foldl_size]
        obtain ⟨ys, h1, h2, h3, h4⟩ := rows_good ps vs _ _ (by simpa using hl) (fun k p q h1 h2 => hall (k + 1) p q (by simpa using h1) (by simpa using h2)) hnew (by rw [hsz']; simpa using hsz) hf
        refine ⟨ys, ?_, h2, by simpa using h3, by rw [h4, hsz']⟩
        simp only [Instr.fill]
        rw [if_neg (by simp; omega)]
        exact h1
      · cases hf
    · cases hf
  | [], _ :: _, _, _, hl, _, _, _, _, _ => by simp at hl
  | _ :: _, [], _, _, hl, _, _, _, _, _ => by simp at hl

def aBuildSlice (P : Program) (T : TypeId) (len : Nat) (o : List (Option AObj)) (parts : List (Nat × AV)) : Option (AV × List (Option AObj)) :=
  match P.underlying T with
  | some (.slice e) => match tApp P T, tZero P e with
    | some (_, z, _), some zr => if len * z ≤ 16777216 then match aRows z (List.replicate len zr) parts with
      | some rows => some (.vec o.length len, o ++ [some ⟨e, z, true, rows⟩])
      | none => none
      else none
    | _, _ => none
  | _ => none

theorem run_bs {P : Program} {T : TypeId} {len : Nat} {ps : List (Nat × AV)} {vs : Array (Nat × Value)} (hl : ps.length = vs.size) (hall : ∀ (k : Nat) p q, ps[k]? = some p → vs[k]? = some q → p.1 = q.1 ∧ RA D nu o w p.2 q.2) {o1 : List (Option AObj)} {r : AV} {o' : List (Option AObj)} (hb : aBuildSlice P T len o1 ps = some (r, o')) :
    ∃ e z rows ys, r = .vec o1.length len ∧ o' = o1 ++ [some ⟨e, z, true, rows⟩] ∧ rows.length = len ∧ 0 < z ∧ len ≤ 16777216 ∧ ys.size = len * z ∧ Grid D nu o w z rows ys ∧ (Instr.buildSlice T len vs).run P w = .ok (.slice (some ⟨w.heap.size, 0, none⟩) len len) (w.alloc (.cells ys e)) := by
  unfold aBuildSlice at hb
  split at hb
  · rename_i e hu
    split at hb
    · rename_i e2 z bytes zr ht hz
      split at hb
      · rename_i hsmall
        split at hb
        · rename_i rows hrows
          simp only [Option.some.injEq, Prod.mk.injEq] at hb
          obtain ⟨rfl, rfl⟩ := hb
          obtain ⟨hu', i, zv, hi, hzv, hzs, hz0, hsize, hbytes⟩ := tApp_spec ht
          rw [hu] at hu'; cases hu'
          obtain ⟨i', zv', hi', hzv', rfl, hone⟩ := tZero_spec hz
          rw [hi] at hi'; cases hi'
          rw [hzv] at hzv'; cases hzv'
          have hg : Grid D nu o w z (List.replicate len (zv.cells.toList.map AV.v)) ((Array.range (len * i.size)).map (zv.cells[· % zv.cells.size]!)) := by
            refine ⟨fun k row hk => ?_, fun k j row c hk hj => ?_⟩
            · rw [List.getElem?_replicate] at hk; split at hk <;> cases hk; simpa using hzs
            · rw [List.getElem?_replicate] at hk
              split at hk
              · rename_i hlt
                cases hk
                rw [List.getElem?_map] at hj
                cases hq : zv.cells.toList[j]? with
                | none => rw [hq] at hj; cases hj
                | some u =>
                  rw [hq] at hj; cases hj
                  have hjl : j < zv.cells.size := by have := (List.getElem?_eq_some_iff.1 hq).1; simpa using this
                  refine ⟨u, ?_, .v u, hone u (List.mem_of_getElem? hq)⟩
                  have hlt2 : k * z + j < len * i.size := by rw [hsize]; exact idx_lt hlt (by omega)
                  simp only [Array.getElem?_map, Array.getElem?_range, if_pos hlt2, Option.map_some]
                  rw [show (k * z + j) % zv.cells.size = j by rw [hzs]; exact idx_mod (by omega)]
                  have : zv.cells[j]? = some u := by simpa using hq
                  rw [getElem!_pos zv.cells j hjl, (Array.getElem?_eq_some_iff.1 this).2]
              · cases hk
          obtain ⟨ys, h1, h2, h3, h4⟩ := rows_good ps vs.toList _ _ (by simpa using hl) (fun k p q a b => hall k p q a (by simpa using b)) hg (by simp [hsize]) hrows
          simp only [List.length_replicate] at h3
          have hys : ys.size = len * z := by rw [h4]; simp [hsize]
          have hrun : (Instr.buildSlice T len vs).run P w = .ok (.slice (some ⟨w.heap.size, 0, none⟩) len len) (w.alloc (.cells ys e)) := by
            rw [← hsize] at h1
            by_cases h0 : len * i.size = 0
            · have hlen0 : len = 0 := by
                rcases Nat.mul_eq_zero.1 h0 with e1 | e1
                · exact e1
                · omega
              subst hlen0
              have h0' : ¬ (0 > 16777216) := by omega
              simp [Array.range_zero'] at h1
              simp [Instr.buildSlice, run_underlying hu, sizeOf, typeInfo, hi, newRow, Array.range_zero', h1]
            · have hs' : ¬ len * i.size > 2 ^ 24 := by rw [hsize]; omega
              simp [Instr.buildSlice, run_underlying hu, sizeOf, typeInfo, zeroValue, hi, hzv, hs', h0, h1, newRow]
          have hlm : len ≤ 16777216 := Nat.le_trans (Nat.le_mul_of_pos_right _ hz0) hsmall
          exact ⟨e, z, rows, ys, rfl, rfl, h3, hz0, hlm, hys, h2, hrun⟩
        · cases hb
      · cases hb
    · cases hb
  · cases hb

theorem good_buildSlice {P : Program} {T : TypeId} {len : Nat} (h : RO D nu o w) {ps : List (Nat × AV)} {vs : Array (Nat × Value)} (hl : ps.length = vs.size) (hall : ∀ (k : Nat) p q, ps[k]? = some p → vs[k]? = some q → p.1 = q.1 ∧ RA D nu o w p.2 q.2) {r : AV} {o' : List (Option AObj)} (hb : aBuildSlice P T len o ps = some (r, o')) :
    Good D nu o w ((Instr.buildSlice T len vs).run P w) r o' := by
  obtain ⟨e, z, rows, ys, rfl, rfl, h3, hz0, hlm, hys, h2, hrun⟩ := run_bs hl hall hb
  rw [hrun]
  have := good_newvec h e hz0 h2 (cap := len) (by omega) (by unfold maxLen; omega) hys
  rw [h3] at this
  exact this

end
end Go.Proofs.Yteihcfhdhkamfaa
