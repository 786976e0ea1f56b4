/- The abstract walk: rows that grow. -/
import Derived.Test.YteihcfhdhkamfaaAbsC
namespace Go.Proofs.Yteihcfhdhkamfaa
open Go.RowKit

section
variable {D : Nat → Prop} {nu : Nat → Nat → Value} {o : List (Option AObj)} {w : World}

/-- a slice type: its elements' type, their cells, bytes -/
def tApp (P : Program) (T : TypeId) : Option (TypeId × Nat × Nat) :=
  match P.underlying T with
  | some (.slice e) => match P.info? e with
    | some i => match i.zero with
      | some zv => if zv.cells.size = i.size ∧ 0 < i.size then some (e, i.size, i.bytes) else none
      | none => none
    | none => none
  | _ => none

theorem tApp_spec {P : Program} {T e : TypeId} {z n : Nat} (h : tApp P T = some (e, z, n)) : P.underlying T = some (.slice e) ∧ ∃ i zv, P.info? e = some i ∧ i.zero = some zv ∧ zv.cells.size = z ∧ 0 < z ∧ i.size = z ∧ i.bytes = n := by
  unfold tApp at h
  split at h
  · rename_i e' hu
    split at h
    · rename_i i hi
      split at h
      · rename_i zv hz
        split at h
        · rename_i hc
          cases h
          exact ⟨hu, i, zv, hi, hz, hc.1, hc.2, rfl, rfl⟩
        · cases h
      · cases h
    · cases h
  · cases h

/-- the elements of a slice that is read -/
def aSrc (o : List (Option AObj)) (z : Nat) : AV → Option (Prop × List (List AV))
  | .slc z' rows len => some (z' = z, rows.take len)
  | .vec id len => match o[id]? with
    | some (some ob) => some (ob.isV = true ∧ ob.z = z ∧ ob.rows.length = len, ob.rows)
    | _ => none
  | .v (.slice none 0 0) => some (True, [])
  | _ => none

/-- rows lie as news -/
structure Lies (D : Nat → Prop) (nu : Nat → Nat → Value) (o : List (Option AObj)) (w : World) (z : Nat) (rows : List (List AV)) (news : List Value) : Prop where
  len : news.length = rows.length * z
  one : ∀ u ∈ news, u.oneCell' = true
  row : ∀ (i : Nat) row, rows[i]? = some row → row.length = z
  cell : ∀ (i j : Nat) row c, rows[i]? = some row → row[j]? = some c → ∃ x, news[i * z + j]? = some x ∧ RA D nu o w c x

theorem idx_lt {i j z n : Nat} (hi : i < n) (hj : j < z) : i * z + j < n * z := by
  have : (i + 1) * z ≤ n * z := Nat.mul_le_mul_right _ hi
  rw [Nat.add_mul, Nat.one_mul] at this; omega
theorem idx_div {i j z : Nat} (hj : j < z) : (i * z + j) / z = i := by
  rw [Nat.mul_comm, Nat.mul_add_div (by omega), Nat.div_eq_of_lt hj, Nat.add_zero]
theorem idx_mod {i j z : Nat} (hj : j < z) : (i * z + j) % z = j := by
  rw [Nat.mul_comm, Nat.mul_add_mod, Nat.mod_eq_of_lt hj]

theorem lies_nil (z : Nat) : Lies D nu o w z [] [] := ⟨by simp, by simp, by simp, by simp⟩

theorem ROb.lies {id : Nat} {ob : AObj} {g : Nat} {cur : Array Value} (h : ROb D nu o w id ob g cur) : Lies D nu o w ob.z ob.rows (cur.toList.take (ob.rows.length * ob.z)) := by
  have hsz : ob.rows.length * ob.z ≤ cur.size := by
    cases hv : ob.isV
    · obtain ⟨_, h2, h3⟩ := h.box hv; rw [h2, h3]; omega
    · obtain ⟨cap, _, h2, _, h4⟩ := h.vec hv; rw [h4]; exact Nat.mul_le_mul_right _ h2
  have hz := h.z
  refine ⟨by simp; omega, fun u hu => ?_, h.row, fun i j row c h1 h2 => ?_⟩
  · obtain ⟨k, hk⟩ := List.getElem?_of_mem hu
    rw [List.getElem?_take] at hk
    split at hk
    · rename_i hlt
      have hi : k / ob.z < ob.rows.length := Nat.div_lt_of_lt_mul (by rw [Nat.mul_comm]; exact hlt)
      have hr : ob.rows[k / ob.z]? = some ob.rows[k / ob.z] := List.getElem?_eq_getElem hi
      have hj : k % ob.z < ob.rows[k / ob.z].length := by rw [h.row _ _ hr]; exact Nat.mod_lt _ hz
      refine h.one (k / ob.z) (k % ob.z) _ _ u hr (List.getElem?_eq_getElem hj) ?_
      rw [Nat.mul_comm, Nat.div_add_mod]; simpa using hk
    · cases hk
  · have hi := (List.getElem?_eq_some_iff.1 h1).1
    have hj := (List.getElem?_eq_some_iff.1 h2).1
    have hlt := h.curLt h1 hj
    rw [h.row i row h1] at hj
    refine ⟨cur[i * ob.z + j], ?_, h.cell i j row c _ h1 h2 (Array.getElem?_eq_getElem hlt)⟩
    rw [List.getElem?_take_of_lt (idx_lt hi hj)]
    simp [hlt]

theorem src_read (h : RO D nu o w) {z : Nat} (hz : 0 < z) {a : AV} {x : Value} (hr : RA D nu o w a x) {p : Prop} {rows : List (List AV)} (hs : aSrc o z a = some (p, rows)) (hp : p) :
    (x = .slice none 0 0 ∧ rows = []) ∨ ∃ (g : Addr) (c : Nat) (news : List Value), x = .slice (some g) rows.length c ∧ Lies D nu o w z rows news ∧ (∀ (j : Nat) u, news[j]? = some u → w.cell? (g.add j) = some u) := by
  cases a with
  | slc z' rows' len =>
    simp only [aSrc, Option.some.injEq, Prod.mk.injEq] at hs
    obtain ⟨rfl, rfl⟩ := hs
    subst hp
    cases hr with
    | slcNil => exact .inl ⟨rfl, rfl⟩
    | slcOdd _ a => exact .inr ⟨a, 0, [], rfl, lies_nil _, fun j u hj => by simp at hj⟩
    | slc _ _ _ b off cap f h1 h2 h3 h4 h5 h6 h7 h8 =>
      have hl : (rows'.take len).length = len := by simp; omega
      refine .inr ⟨⟨b, off, none⟩, cap, (List.range (len * z')).map (fun k => f (k / z') (k % z')), by rw [hl], ⟨by simp [hl], ?_, fun i row hi => ?_, fun i j row c hi hj => ?_⟩, ?_⟩
      · intro u hu
        obtain ⟨k, hk, rfl⟩ := List.mem_map.1 hu
        simp only [List.mem_range] at hk
        have hi : k / z' < rows'.length := Nat.lt_of_lt_of_le (Nat.div_lt_of_lt_mul (by rw [Nat.mul_comm]; exact hk)) h1
        have hr' : rows'[k / z']? = some rows'[k / z'] := List.getElem?_eq_getElem hi
        have hj : k % z' < rows'[k / z'].length := by rw [h5 _ _ hr']; exact Nat.mod_lt _ hz
        exact h8 _ _ _ _ hr' (List.getElem?_eq_getElem hj)
      · rw [List.getElem?_take] at hi; split at hi
        · exact h5 i row hi
        · cases hi
      · rw [List.getElem?_take] at hi
        split at hi
        · rename_i hlt
          have hjl := (List.getElem?_eq_some_iff.1 hj).1
          rw [h5 i row hi] at hjl
          refine ⟨f i j, ?_, h7 i j row c hi hj⟩
          rw [List.getElem?_map, List.getElem?_range (idx_lt hlt hjl)]
          simp only [Option.map_some, idx_div hjl, idx_mod hjl]
        · cases hi
      · intro k u hk
        rw [List.getElem?_map] at hk
        rcases Nat.lt_or_ge k (len * z') with hlt | hge
        · rw [List.getElem?_range hlt] at hk
          simp only [Option.map_some, Option.some.injEq] at hk
          subst hk
          have hi : k / z' < rows'.length := Nat.lt_of_lt_of_le (Nat.div_lt_of_lt_mul (by rw [Nat.mul_comm]; exact hlt)) h1
          have hr' : rows'[k / z']? = some rows'[k / z'] := List.getElem?_eq_getElem hi
          have hj : k % z' < rows'[k / z'].length := by rw [h5 _ _ hr']; exact Nat.mod_lt _ hz
          have := h6 _ _ _ _ hr' (List.getElem?_eq_getElem hj)
          rw [← this, Addr.add_lit]
          congr 2
          have := Nat.div_add_mod k z'
          rw [Nat.mul_comm] at this
          omega
        · rw [List.getElem?_eq_none (by simpa using hge)] at hk; cases hk
  | vec id len =>
    simp only [aSrc] at hs
    split at hs
    · rename_i ob ho
      simp only [Option.some.injEq, Prod.mk.injEq] at hs
      obtain ⟨rfl, rfl⟩ := hs
      obtain ⟨hv, rfl, rfl⟩ := hp
      cases hr
      rcases h.obj id ob ho with ⟨e1, e2, e3⟩ | ⟨g, cur, hb⟩
      · exact .inl ⟨by rw [e2]; exact e3, e2⟩
      · obtain ⟨cap, q1, q2, q3, q4⟩ := hb.vec hv
        refine .inr ⟨⟨g, 0, none⟩, cap, _, q1, hb.lies, fun j u hj => ?_⟩
        rw [List.getElem?_take] at hj
        split at hj
        · have := hb.blk
          rw [Addr.add_lit, Nat.zero_add]
          simp [World.cell?, this]
          simpa using hj
        · cases hj
    · cases hs
  | v x' =>
    cases hr
    simp only [aSrc] at hs
    split at hs
    case h_1 e => cases e
    case h_2 e => cases e
    case h_3 e => cases e; cases hs; exact .inl ⟨rfl, rfl⟩
    case h_4 => cases hs
  | _ => cases hs

/-! ### an own row grows -/
def updH (nu : Nat → Nat → Value) (k L : Nat) (v : Value) : Nat → Nat → Value := fun id len => if id = k ∧ len = L then v else nu id len
theorem updH_new (nu : Nat → Nat → Value) (k L : Nat) (v : Value) : updH nu k L v k L = v := by simp [updH]
theorem updH_old {nu : Nat → Nat → Value} {k L id len : Nat} {v : Value} (h : id ≠ k ∨ len ≠ L) : updH nu k L v id len = nu id len := by
  have : ¬ (id = k ∧ len = L) := by omega
  simp only [updH, if_neg this]

theorem RO.ownsVec (h : RO D nu o w) {id : Nat} {ob : AObj} (ho : o[id]? = some (some ob)) (hv : ob.isV = true) :
    ∃ xs, w.ownsRow 0 ob.T ob.z (nu id ob.rows.length) ob.rows.length xs ∧ Lies D nu o w ob.z ob.rows xs ∧ (nu id ob.rows.length).ownBlock = blkOf (nu id ob.hl) := by
  have hhl : ob.hl = ob.rows.length := by simp [AObj.hl, hv]
  rw [hhl]
  rcases h.obj id ob ho with ⟨e1, e2, e3⟩ | ⟨g, cur, hb⟩
  · refine ⟨[], ?_, by rw [e2]; exact lies_nil _, ?_⟩
    · rw [e2]; exact ⟨by simp, .inl ⟨e3, rfl⟩⟩
    · rw [e2]; simp only [List.length_nil]; rw [e3]; rfl
  · obtain ⟨cap, q1, q2, q3, q4⟩ := hb.vec hv
    refine ⟨_, ⟨hb.lies.len, .inr ⟨g, cap, cur, q1, Nat.zero_le _, hb.blk, q2, q3, q4, rfl⟩⟩, hb.lies, ?_⟩
    rw [q1]; rfl

theorem grow_good {w' : World} (h : RO D nu o w) {id : Nat} {ob : AObj} (ho : o[id]? = some (some ob)) (hv : ob.isV = true) (hz : 0 < ob.z) {rows2 : List (List AV)} (hne : rows2 ≠ []) {xs news : List Value} (hL : Lies D nu o w ob.z ob.rows xs) (hN : Lies D nu o w ob.z rows2 news)
    {v' : Value} (hown : w'.ownsRow 0 ob.T ob.z v' (ob.rows.length + rows2.length) (xs ++ news)) (hg : w.grownBy w' (nu id ob.rows.length).ownBlock) (hvb : v'.ownBlock = (nu id ob.rows.length).ownBlock ∨ v'.ownBlock = some w.heap.size) :
    Mono nu o w (updH nu id (ob.rows.length + rows2.length) v') (o.set id (some { ob with rows := ob.rows ++ rows2 })) w' ∧ RO D (updH nu id (ob.rows.length + rows2.length) v') (o.set id (some { ob with rows := ob.rows ++ rows2 })) w' ∧
      RA D (updH nu id (ob.rows.length + rows2.length) v') (o.set id (some { ob with rows := ob.rows ++ rows2 })) w' (.vec id (ob.rows.length + rows2.length)) v' := by
  have hlt := (List.getElem?_eq_some_iff.1 ho).1
  have hm0 : 0 < rows2.length := List.length_pos_iff.2 hne
  have hhl : ob.hl = ob.rows.length := by simp [AObj.hl, hv]
  have hhl' : ({ ob with rows := ob.rows ++ rows2 } : AObj).hl = ob.rows.length + rows2.length := by simp [AObj.hl, hv]
  obtain ⟨_, hrest⟩ := hown
  rcases hrest with ⟨_, h0⟩ | ⟨g, cap, cur, rfl, _, hblk, hcap, hcm, hsz, htake⟩
  · omega
  obtain ⟨xs0, hxs0, _, hob⟩ := h.ownsVec ho hv
  have hold : ∀ b, blkOf (nu id ob.hl) = some b → b < w.heap.size := fun b hb => h.owned_lt ⟨id, ob, ho, hb⟩
  have hvb' : some g = blkOf (nu id ob.hl) ∨ some g = some w.heap.size := by
    rw [← hob]
    simpa [Value.ownBlock] using hvb
  rw [hob] at hg
  have hm : Mono nu o w (updH nu id (ob.rows.length + rows2.length) (.slice (some ⟨g, 0, none⟩) (ob.rows.length + rows2.length) cap)) (o.set id (some { ob with rows := ob.rows ++ rows2 })) w' := by
    refine ⟨hg.os, hg.tape, hg.output, hg.size, fun id' len hh => ?_, fun b hb hno => ⟨hg.block b hb (fun e => hno ⟨id, ob, ho, e.symm⟩), ?_⟩⟩
    · obtain ⟨x, k1, k2⟩ := hh
      by_cases he : id = id'
      · subst he
        rw [ho] at k1; cases k1
        have := k2 ob rfl
        exact ⟨⟨_, by rw [List.getElem?_set_self hlt], fun x hx => by cases hx; rw [hhl']; omega⟩, updH_old (by omega)⟩
      · exact ⟨⟨x, by rw [List.getElem?_set_ne he]; exact k1, k2⟩, updH_old (.inl (Ne.symm he))⟩
    · rintro ⟨id', ob'', k1, k2⟩
      by_cases he : id = id'
      · subst he
        rw [List.getElem?_set_self hlt] at k1; cases k1
        rw [hhl', updH_new] at k2
        simp only [blkOf, Option.some.injEq] at k2
        subst k2
        rcases hvb' with e | e
        · exact hno ⟨id, ob, ho, e.symm⟩
        · cases e; omega
      · rw [List.getElem?_set_ne he] at k1
        rw [updH_old (.inl (Ne.symm he))] at k2
        exact hno ⟨id', ob'', k1, k2⟩
  have hcl : cur.toList.take ((ob.rows.length + rows2.length) * ob.z) = xs ++ news := htake
  refine ⟨hm, ⟨fun id' ob'' k1 => ?_, fun b hb => h.up b (Nat.le_trans hg.size hb), fun i1 i2 b1 b2 b k1 k2 hne' k3 k4 => ?_⟩, ?_⟩
  · by_cases he : id = id'
    · subst he
      rw [List.getElem?_set_self hlt] at k1; cases k1
      have key : ∀ (i j : Nat) row c x, (ob.rows ++ rows2)[i]? = some row → row[j]? = some c → cur[i * ob.z + j]? = some x → RA D nu o w c x ∧ x.oneCell' = true := by
        intro i j row c x q1 q2 q3
        have hj := (List.getElem?_eq_some_iff.1 q2).1
        have hi := (List.getElem?_eq_some_iff.1 q1).1
        simp only [List.length_append] at hi
        have hjz : j < ob.z := by
          rcases Nat.lt_or_ge i ob.rows.length with q | q
          · rw [List.getElem?_append_left q] at q1; rw [← hL.row i row q1]; exact hj
          · rw [List.getElem?_append_right q] at q1; rw [← hN.row _ row q1]; exact hj
        have q4 : (xs ++ news)[i * ob.z + j]? = some x := by
          rw [← hcl, List.getElem?_take_of_lt (idx_lt hi hjz)]; simpa using q3
        rcases Nat.lt_or_ge i ob.rows.length with q | q
        · rw [List.getElem?_append_left q] at q1
          obtain ⟨y, y1, y2⟩ := hL.cell i j row c q1 q2
          have hll : i * ob.z + j < xs.length := by rw [hL.len]; exact idx_lt q hjz
          rw [List.getElem?_append_left hll] at q4
          rw [q4] at y1; cases y1
          exact ⟨y2, hL.one _ (List.mem_of_getElem? q4)⟩
        · rw [List.getElem?_append_right q] at q1
          obtain ⟨y, y1, y2⟩ := hN.cell (i - ob.rows.length) j row c q1 q2
          have hge : xs.length ≤ i * ob.z + j := by
            rw [hL.len]; have := Nat.mul_le_mul_right ob.z q; omega
          rw [List.getElem?_append_right hge, hL.len] at q4
          rw [show i * ob.z + j - ob.rows.length * ob.z = (i - ob.rows.length) * ob.z + j by
            rw [Nat.sub_mul]; have := Nat.mul_le_mul_right ob.z q; omega] at q4
          rw [q4] at y1; cases y1
          exact ⟨y2, hN.one _ (List.mem_of_getElem? q4)⟩
      refine .inr ⟨g, cur, hblk, ?_, fun e => (by rw [hv] at e; cases e), fun _ => ⟨cap, by simp only [List.length_append]; rw [updH_new], by simpa using hcap, hcm, hsz⟩, hz, fun i row hi => ?_, fun i j row c x q1 q2 q3 => (key i j row c x q1 q2 q3).1.mono hm (fun _ _ h => h), fun i j row c x q1 q2 q3 => (key i j row c x q1 q2 q3).2⟩
      · rcases hvb' with e | e
        · rcases h.obj id ob ho with ⟨e1, e2, e3⟩ | ⟨g0, cur0, hb⟩
          · rw [hhl, e2] at e; simp only [List.length_nil] at e; rw [e3] at e; cases e
          · rw [hb.blkEq] at e; cases e; exact hb.dom
        · cases e; exact h.up _ (Nat.le_refl _)
      · rcases Nat.lt_or_ge i ob.rows.length with q | q
        · rw [List.getElem?_append_left q] at hi; exact hL.row i row hi
        · rw [List.getElem?_append_right q] at hi; exact hN.row _ row hi
    · rw [List.getElem?_set_ne he] at k1
      rcases h.obj id' ob'' k1 with ⟨e1, e2, e3⟩ | ⟨g', cur', hr⟩
      · exact .inl ⟨e1, e2, by rw [updH_old (.inl (Ne.symm he))]; exact e3⟩
      · refine .inr ⟨g', cur', (hg.block g' (h.owned_lt ⟨id', ob'', k1, hr.blkEq⟩) (fun e => h.sep id id' ob ob'' g' ho k1 he e.symm hr.blkEq)).trans hr.blk, hr.dom, fun e => ?_, fun e => ?_, hr.z, hr.row, fun i j row c x q1 q2 q3 => (hr.cell i j row c x q1 q2 q3).mono hm (fun _ _ h => h), hr.one⟩
        · rw [updH_old (.inl (Ne.symm he))]; exact hr.box e
        · rw [updH_old (.inl (Ne.symm he))]; exact hr.vec e
  · have new : ∀ id' ob'', id ≠ id' → o[id']? = some (some ob'') → blkOf (nu id' ob''.hl) ≠ some g := fun id' ob'' hne2 q1 q2 => by
      rcases hvb' with e | e
      · exact h.sep id id' ob ob'' g ho q1 hne2 e.symm q2
      · cases e
        have := h.owned_lt ⟨id', ob'', q1, q2⟩
        omega
    by_cases h1 : id = i1
    · subst h1
      rw [List.getElem?_set_self hlt] at k1; cases k1
      rw [hhl', updH_new] at k3; cases k3
      rw [List.getElem?_set_ne hne'] at k2
      rw [updH_old (.inl (Ne.symm hne'))] at k4
      exact new i2 b2 hne' k2 k4
    · rw [List.getElem?_set_ne h1] at k1
      rw [updH_old (.inl (Ne.symm h1))] at k3
      by_cases h2 : id = i2
      · subst h2
        rw [List.getElem?_set_self hlt] at k2; cases k2
        rw [hhl', updH_new] at k4; cases k4
        exact new i1 b1 h1 k1 k3
      · rw [List.getElem?_set_ne h2] at k2
        rw [updH_old (.inl (Ne.symm h2))] at k4
        exact h.sep i1 i2 b1 b2 b k1 k2 hne' k3 k4
  · have := RA.vec (D := D) (nu := updH nu id (ob.rows.length + rows2.length) (.slice (some ⟨g, 0, none⟩) (ob.rows.length + rows2.length) cap)) (o := o.set id (some { ob with rows := ob.rows ++ rows2 })) (w := w') id (ob.rows.length + rows2.length)
      ⟨_, List.getElem?_set_self hlt, fun x hx => by cases hx; rw [hhl']; exact Nat.le_refl _⟩ (by rw [updH_new]; rfl)
    rw [updH_new] at this
    exact this

/-- append onto a row of the call's own -/
def aAppend (P : Program) (T : TypeId) (o : List (Option AObj)) (a b : AV) : Option (Prop × AV × List (Option AObj)) :=
  match tApp P T, a with
  | some (e, z, bytes), .vec id len => match o[id]?, aSrc o z b with
    | some (some ob), some (p, rows2) => some ((ob.isV = true ∧ ob.z = z ∧ ob.T = e ∧ ob.rows.length = len) ∧ p ∧ (len + rows2.length) * bytes ≤ 140737488355328 ∧ len + rows2.length ≤ 140737488355328, .vec id (len + rows2.length), o.set id (some { ob with rows := ob.rows ++ rows2 }))
    | _, _ => none
  | some (e, z, bytes), .v (.slice none 0 0) => match aSrc o z b with
    | some (p, rows2) => some (p ∧ rows2.length * bytes ≤ 140737488355328 ∧ rows2.length ≤ 140737488355328, .vec o.length rows2.length, o ++ [some ⟨e, z, true, rows2⟩])
    | none => none
  | _, _ => none

theorem good_append {P : Program} {T : TypeId} (ty : TypeId) (h : RO D nu o w) {a b : AV} {x y : Value} (hr : RA D nu o w a x) (hs : RA D nu o w b y) {p : Prop} {r : AV} {o' : List (Option AObj)} (hl : aAppend P T o a b = some (p, r, o')) (hp : p) :
    Good D nu o w ((Builtin.append_ #[T, T] ty #[x, y]).run P w) r o' := by
  unfold aAppend at hl
  split at hl
  · rename_i e z bytes id len ht
    split at hl
    · rename_i ob p' rows2 ho e2
      simp only [Option.some.injEq, Prod.mk.injEq] at hl
      obtain ⟨rfl, rfl, rfl⟩ := hl
      obtain ⟨⟨hv, rfl, rfl, rfl⟩, hp', hby, h63⟩ := hp
      obtain ⟨hu, i, zv, hi, hzv, hzs, hz0, hsize, hbytes⟩ := tApp_spec ht
      obtain ⟨xs, hown, hL, hob⟩ := h.ownsVec ho hv
      cases hr
      rcases src_read h hz0 hs e2 hp' with ⟨rfl, rfl⟩ | ⟨g, c, news, rfl, hN, hcell⟩
      · have hrun := run_append_owned_none (P := P) w 0 T ty ob.T i ob.z hu hi _ _ _ hown
        have e1 : ({ ob with rows := ob.rows ++ [] } : AObj) = ob := by simp
        have e3 : o.set id (some { ob with rows := ob.rows ++ [] }) = o := by
          rw [e1]
          apply List.ext_getElem?
          intro k
          by_cases hk : id = k
          · subst hk; rw [List.getElem?_set_self (List.getElem?_eq_some_iff.1 ho).1]; exact ho.symm
          · rw [List.getElem?_set_ne hk]
        rw [e3, hrun]
        rename_i hh ho1
        exact Good.pure h (.vec id _ hh ho1) rfl
      · by_cases hne : rows2 = []
        · subst hne
          have hn : news = [] := List.eq_nil_of_length_eq_zero (by simpa using hN.len)
          subst hn
          have e1 : ({ ob with rows := ob.rows ++ [] } : AObj) = ob := by simp
          have e3 : o.set id (some { ob with rows := ob.rows ++ [] }) = o := by
            rw [e1]
            apply List.ext_getElem?
            intro k
            by_cases hk : id = k
            · subst hk; rw [List.getElem?_set_self (List.getElem?_eq_some_iff.1 ho).1]; exact ho.symm
            · rw [List.getElem?_set_ne hk]
          rw [e3]
          rename_i hh ho1
          have hrun : (Builtin.append_ #[T, T] ty #[nu id ob.rows.length, .slice (some g) 0 c]).run P w = .ok (nu id ob.rows.length) w := by
            rcases hown.2 with ⟨e4, e5⟩ | ⟨g', cap, cur, e4, _, _, hnc, _⟩
            · rw [e4]; simp [Builtin.append_, run_underlying hu, sizeOf, typeInfo, hi, Builtin.lenOf, Builtin.firstCells, loadCells, loadCellsFrom]
            · rw [e4]; simp [Builtin.append_, run_underlying hu, sizeOf, typeInfo, hi, Builtin.lenOf, Builtin.firstCells, loadCells, loadCellsFrom, hnc, storeCells]
          exact Good.pure h (.vec id _ hh ho1) hrun
        · obtain ⟨v', w', hrun, hown', hgr, _, hvb⟩ := run_append_own_at (P := P) w 0 T ty ob.T i zv ob.z bytes hu hi hzv hsize hbytes hzs hz0 _ _ xs hown g rows2.length c news hN.len hcell hN.one
            (by unfold maxLen; omega) hby (Nat.zero_le _)
          obtain ⟨k1, k2, k3⟩ := grow_good h ho hv hz0 hne hL hN hown' hgr hvb
          exact ⟨v', w', _, hrun, k1, k2, k3⟩
    · cases hl
  · rename_i e z bytes ht
    split at hl
    · rename_i p' rows2 e2
      simp only [Option.some.injEq, Prod.mk.injEq] at hl
      obtain ⟨rfl, rfl, rfl⟩ := hl
      obtain ⟨hp', hby, h63⟩ := hp
      obtain ⟨hu, i, zv, hi, hzv, hzs, hz0, hsize, hbytes⟩ := tApp_spec ht
      cases hr
      -- the new row, out of nil
      have fin : ∀ (v' : Value) (w' : World) (news : List Value), Lies D nu o w z rows2 news → w'.ownsRow 0 e z v' rows2.length news → w.grownBy w' none → (v'.ownBlock = none ∨ v'.ownBlock = some w.heap.size) →
          Mono nu o w (updN nu o.length v') (o ++ [some ⟨e, z, true, rows2⟩]) w' ∧ RO D (updN nu o.length v') (o ++ [some ⟨e, z, true, rows2⟩]) w' ∧ RA D (updN nu o.length v') (o ++ [some ⟨e, z, true, rows2⟩]) w' (.vec o.length rows2.length) v' := by
        intro v' w' news hN hown hgr hvb
        have hb : Below w.heap.size w w' := ⟨hgr.os, hgr.tape, hgr.output, hgr.size, fun k hk => hgr.block k hk (by simp)⟩
        obtain ⟨hlen, hown⟩ := hown
        have hv : ∀ b, blkOf v' = some b → w.heap.size ≤ b := fun b hb' => by
          rcases hown with ⟨rfl, _⟩ | ⟨g, cap, cur, rfl, _⟩
          · cases hb'
          · simp only [Value.ownBlock] at hvb
            simp only [blkOf] at hb'
            rcases hvb with e1 | e1
            · cases e1
            · rw [e1] at hb'; cases hb'; exact Nat.le_refl _
        have hm := push_mono (nu := nu) (o := o) (ob := ⟨e, z, true, rows2⟩) hb hv
        refine ⟨hm, push_RO h hb hv ?_, ?_⟩
        · rcases hown with ⟨rfl, e0⟩ | ⟨g, cap, cur, rfl, _, hblk, hcap, hcm, hsz, htake⟩
          · exact .inl ⟨rfl, List.eq_nil_of_length_eq_zero e0, rfl⟩
          · have hg : g = w.heap.size := by simpa [Value.ownBlock] using hvb
            have key : ∀ (i j : Nat) row c x, rows2[i]? = some row → row[j]? = some c → cur[i * z + j]? = some x → RA D nu o w c x ∧ x.oneCell' = true := by
              intro i j row c x q1 q2 q3
              obtain ⟨y, y1, y2⟩ := hN.cell i j row c q1 q2
              have hj := (List.getElem?_eq_some_iff.1 q2).1
              rw [hN.row i row q1] at hj
              have q4 : news[i * z + j]? = some x := by
                rw [← htake, List.getElem?_take_of_lt (idx_lt (List.getElem?_eq_some_iff.1 q1).1 hj)]; simpa using q3
              rw [q4] at y1; cases y1
              exact ⟨y2, hN.one _ (List.mem_of_getElem? q4)⟩
            refine .inr ⟨g, cur, hblk, h.up _ (by omega), fun e' => (by cases e'), fun _ => ⟨cap, updN_new _ _ _ _, hcap, hcm, hsz⟩, hz0, hN.row, fun i j row c x q1 q2 q3 => (key i j row c x q1 q2 q3).1.mono hm (fun _ _ h => h), fun i j row c x q1 q2 q3 => (key i j row c x q1 q2 q3).2⟩
        · have := RA.vec (D := D) (nu := updN nu o.length v') (o := o ++ [some ⟨e, z, true, rows2⟩]) (w := w') o.length rows2.length ⟨_, List.getElem?_concat_length, fun x hx => by cases hx; exact Nat.le_refl _⟩ (by
            rw [updN_new]
            rcases hown with ⟨rfl, _⟩ | ⟨g, cap, cur, rfl, _⟩ <;> rfl)
          rw [updN_new] at this
          exact this
      have hnil := World.ownsRow_nil w 0 e z
      rcases src_read h hz0 hs e2 hp' with ⟨rfl, rfl⟩ | ⟨g, c, news, rfl, hN, hcell⟩
      · have hrun := run_append_owned_none (P := P) w 0 T ty e i z hu hi _ _ _ hnil
        obtain ⟨k1, k2, k3⟩ := fin (.slice none 0 0) w [] (lies_nil z) (by simpa using hnil) ⟨rfl, rfl, rfl, Nat.le_refl _, fun _ _ _ => rfl⟩ (.inl rfl)
        exact ⟨_, w, _, hrun, k1, k2, k3⟩
      · obtain ⟨v', w', hrun, hown', hgr, _, hvb⟩ := run_append_own_at (P := P) w 0 T ty e i zv z bytes hu hi hzv hsize hbytes hzs hz0 _ _ [] hnil g rows2.length c news hN.len hcell hN.one
          (by unfold maxLen; omega) (by simpa using hby) (Nat.zero_le _)
        obtain ⟨k1, k2, k3⟩ := fin v' w' news hN (by simpa using hown') hgr (by simpa [Value.ownBlock] using hvb)
        exact ⟨v', w', _, hrun, k1, k2, k3⟩
    · cases hl
  · cases hl

end
end Go.Proofs.Yteihcfhdhkamfaa
