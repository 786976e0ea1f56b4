/- The abstract walk: a call that owns some of its caller's objects, told by what it does with these alone (a frame); loops by what they change. -/
import Derived.Test.YtfflpdekojlnmaaDoorLAbsJ
import Derived.Test.YtfflpdekojlnmaaDoorLRel

/-! The abstract walk: a call that owns some of its caller's objects, told by what it does with these alone (a frame); loops by what they change. -/
set_option linter.unusedSimpArgs false
set_option linter.unusedVariables false
namespace Go.Proofs.YtfflpdekojlnmaaDoor
open Go.RowKit

/-! ### other names of objects -/
mutual
def AV.ren (f : Nat → Nat) : AV → AV
 | .undef => .undef
 | .v x => .v x
 | .agg cs => .agg (renL f cs)
 | .tup vs => .tup (renL f vs)
 | .slc z rows len => .slc z (renR f rows) len
 | .vp cs => .vp (renL f cs)
 | .ptr id len z row off => .ptr (f id) len z row off
 | .vec id len => .vec (f id) len
 | .fn g fi ca => .fn g (renL f fi) (renL f ca)
 | .full a => .full (a.ren f)
 | .wit p a => .wit p (a.ren f)
 | .mp rows => .mp (renR f rows)
def renL (f : Nat → Nat) : List AV → List AV
 | [] => []
 | a :: l => a.ren f :: renL f l
def renR (f : Nat → Nat) : List (List AV) → List (List AV)
 | [] => []
 | r :: l => renL f r :: renR f l
end
theorem renL_len (f : Nat → Nat) : ∀ l : List AV, (renL f l).length = l.length
 | [] => rfl
 | a :: l => by rw [renL, List.length_cons, List.length_cons, renL_len f l]
theorem renR_len (f : Nat → Nat) : ∀ l : List (List AV), (renR f l).length = l.length
 | [] => rfl
 | a :: l => by rw [renR, List.length_cons, List.length_cons, renR_len f l]
theorem renL_get (f : Nat → Nat) : ∀ (l : List AV) (i : Nat), (renL f l)[i]? = (l[i]?).map (AV.ren f)
 | [], i => by simp [renL]
 | a :: l, 0 => by simp [renL]
 | a :: l, i + 1 => by simpa [renL] using renL_get f l i
theorem renR_get (f : Nat → Nat) : ∀ (l : List (List AV)) (i : Nat), (renR f l)[i]? = (l[i]?).map (renL f)
 | [], i => by simp [renR]
 | a :: l, 0 => by simp [renR]
 | a :: l, i + 1 => by simpa [renR] using renR_get f l i
def AObj.ren (f : Nat → Nat) (ob : AObj) : AObj := ⟨ob.T, ob.z, ob.isV, renR f ob.rows⟩
theorem AObj.ren_hl (f : Nat → Nat) (ob : AObj) : (ob.ren f).hl = ob.hl := by simp [AObj.hl, AObj.ren, renR_len]

theorem ren_some {α β : Type} {g : α → β} {x : Option α} {y : β} (h : x.map g = some y) : ∃ a, x = some a ∧ y = g a := by
 cases x with
 | none => cases h
 | some a => exact ⟨a, rfl, (Option.some.inj h).symm⟩

section
variable {D D' : Nat → Prop} {nu nu' : Nat → Nat → Value} {o o' : List (Option AObj)} {w : World} {P : Program}

theorem RA.ren {f : Nat → Nat} (hF : ∀ b, Fz D nu o w b → Fz D' nu' o' w b) (hH : ∀ id len, hdrOk o id len → hdrOk o' (f id) len ∧ nu' (f id) len = nu id len) {a : AV} {x : Value} (hr : RA D nu o w a x) : RA D' nu' o' w (a.ren f) x := by
 induction hr with
 | undef x => exact .undef x
 | v x => exact .v x
 | agg cs xs h1 _ h3 ih =>
  exact .agg _ xs (by rw [renL_len]; exact h1) (fun i c x hc hx => by
   rw [renL_get] at hc
   obtain ⟨c0, hc0, rfl⟩ := ren_some hc
   exact ih i c0 x hc0 hx) h3
 | tup cs xs h1 _ ih =>
  exact .tup _ xs (by rw [renL_len]; exact h1) (fun i c x hc hx => by
   rw [renL_get] at hc
   obtain ⟨c0, hc0, rfl⟩ := ren_some hc
   exact ih i c0 x hc0 hx)
 | slcNil z => exact .slcNil z
 | slcOdd z a => exact .slcOdd z a
 | slc z rows len b off cap g h1 h2 h3 h4 h5 h6 _ h8 ih =>
  have key : ∀ (i j : Nat) row c, (renR f rows)[i]? = some row → row[j]? = some c → ∃ row0 c0, rows[i]? = some row0 ∧ row0[j]? = some c0 ∧ c = c0.ren f := fun i j row c hi hj => by
   rw [renR_get] at hi
   obtain ⟨row0, hr0, rfl⟩ := ren_some hi
   rw [renL_get] at hj
   obtain ⟨c0, hc0, rfl⟩ := ren_some hj
   exact ⟨row0, c0, hr0, hc0, rfl⟩
  refine .slc z _ len b off cap g (by rw [renR_len]; exact h1) (by rw [renR_len]; exact h2) h3 (fun hne => hF b (h4 (fun e => hne (by rw [e]; rfl)))) (fun i row hi => ?_) (fun i j row c hi hj => ?_) (fun i j row c hi hj => ?_) (fun i j row c hi hj => ?_)
  ·rw [renR_get] at hi
   obtain ⟨row0, hr0, rfl⟩ := ren_some hi
   rw [renL_len]; exact h5 i row0 hr0
  ·obtain ⟨row0, c0, q1, q2, rfl⟩ := key i j row c hi hj
   exact h6 i j row0 c0 q1 q2
  ·obtain ⟨row0, c0, q1, q2, rfl⟩ := key i j row c hi hj
   exact ih i j row0 c0 q1 q2
  ·obtain ⟨row0, c0, q1, q2, rfl⟩ := key i j row c hi hj
   exact h8 i j row0 c0 q1 q2
 | vp cs b off g h1 h2 _ h4 ih =>
  have key : ∀ (j : Nat) c, (renL f cs)[j]? = some c → ∃ c0, cs[j]? = some c0 ∧ c = c0.ren f := fun j c hj => by
   rw [renL_get] at hj
   obtain ⟨c0, hc0, rfl⟩ := ren_some hj
   exact ⟨c0, hc0, rfl⟩
  refine .vp _ b off g (hF b h1) (fun j c hc => ?_) (fun j c hc => ?_) (fun j c hc => ?_)
  ·obtain ⟨c0, q, rfl⟩ := key j c hc; exact h2 j c0 q
  ·obtain ⟨c0, q, rfl⟩ := key j c hc; exact ih j c0 q
  ·obtain ⟨c0, q, rfl⟩ := key j c hc; exact h4 j c0 q
 | ptr id len z row off b h1 h2 =>
  obtain ⟨h3, h4⟩ := hH id len h1
  exact .ptr (f id) len z row off b h3 (by rw [h4]; exact h2)
 | vec id len h1 h2 =>
  obtain ⟨h3, h4⟩ := hH id len h1
  have := RA.vec (D := D') (nu := nu') (o := o') (w := w) (f id) len h3 (by rw [h4]; exact h2)
  rw [h4] at this
  exact this
 | fn g first caps fi ca h1 h2 _ _ ih1 ih2 =>
  exact .fn g _ _ fi ca (by rw [renL_len]; exact h1) (by rw [renL_len]; exact h2) (fun i c x hc hx => by
   rw [renL_get] at hc
   obtain ⟨c0, hc0, rfl⟩ := ren_some hc
   exact ih1 i c0 x hc0 hx) (fun i c x hc hx => by
   rw [renL_get] at hc
   obtain ⟨c0, hc0, rfl⟩ := ren_some hc
   exact ih2 i c0 x hc0 hx)
 | full a x h1 _ ih => exact .full _ x h1 ih
 | wit p a x S h0 h1 hc h2 _ ih => exact .wit p _ x S h0 (fun b hb => hF b (h1 b hb)) hc h2 ih
 | mp rows b es cl h1 h2 h3 h4 h5 h6 _ ih =>
  refine .mp _ b es cl (hF b h1) h2 (by rw [renR_len]; exact h3) (fun i row hi => ?_) h5 h6 (fun i j row c e hi hj he => ?_)
  ·rw [renR_get] at hi
   obtain ⟨row0, hr0, rfl⟩ := ren_some hi
   rw [renL_len]; exact h4 i row0 hr0
  ·rw [renR_get] at hi
   obtain ⟨row0, hr0, rfl⟩ := ren_some hi
   rw [renL_get] at hj
   obtain ⟨c0, hc0, rfl⟩ := ren_some hj
   exact ih i j row0 c0 e hr0 hc0 he

theorem RA.unren {f : Nat → Nat} {n : Nat} (hF : ∀ b, Fz D nu o w b → Fz D' nu' o' w b) (hH : ∀ id len, id < n → hdrOk o (f id) len → hdrOk o' id len ∧ nu' id len = nu (f id) len) {a' : AV} {x : Value} (hr : RA D nu o w a' x) :
  ∀ a : AV, a.wf n = true → a' = a.ren f → RA D' nu' o' w a x := by
 induction hr with
 | undef x => intro a _ e; cases a <;> simp only [AV.ren, reduceCtorEq] at e; exact .undef x
 | v x =>
  intro a _ e
  cases a <;> simp only [AV.ren, reduceCtorEq, AV.v.injEq] at e
  subst e; exact .v x
 | agg cs xs h1 _ h3 ih =>
  intro a ha e
  cases a <;> simp only [AV.ren, reduceCtorEq, AV.agg.injEq] at e
  rename_i ds
  subst e
  rw [renL_len] at h1
  refine .agg ds xs h1 (fun i c x hc hx => ih i (c.ren f) x (by rw [renL_get, hc]; rfl) hx c ?_ rfl) h3
  simp only [AV.wf] at ha; exact wfL_get ha hc
 | tup cs xs h1 _ ih =>
  intro a ha e
  cases a <;> simp only [AV.ren, reduceCtorEq, AV.tup.injEq] at e
  rename_i ds
  subst e
  rw [renL_len] at h1
  refine .tup ds xs h1 (fun i c x hc hx => ih i (c.ren f) x (by rw [renL_get, hc]; rfl) hx c ?_ rfl)
  simp only [AV.wf] at ha; exact wfL_get ha hc
 | slcNil z =>
  intro a _ e
  cases a with
  | slc z' rows' len' =>
   simp only [AV.ren, AV.slc.injEq] at e
   obtain ⟨rfl, e, rfl⟩ := e
   cases rows' with
   | nil => exact .slcNil _
   | cons r l => simp [renR] at e
  | _ => simp [AV.ren] at e
 | slcOdd z ad =>
  intro a _ e
  cases a with
  | slc z' rows' len' =>
   simp only [AV.ren, AV.slc.injEq] at e
   obtain ⟨rfl, e, rfl⟩ := e
   cases rows' with
   | nil => exact .slcOdd _ _
   | cons r l => simp [renR] at e
  | _ => simp [AV.ren] at e
 | slc z rows len b off cap g h1 h2 h3 h4 h5 h6 _ h8 ih =>
  intro a ha e
  cases a <;> simp only [AV.ren, reduceCtorEq, AV.slc.injEq] at e
  rename_i z' rows' len'
  obtain ⟨rfl, rfl, rfl⟩ := e
  rw [renR_len] at h1 h2
  simp only [AV.wf] at ha
  have up : ∀ (i : Nat) row, rows'[i]? = some row → (renR f rows')[i]? = some (renL f row) := fun i row h => by rw [renR_get, h]; rfl
  have upj : ∀ (row : List AV) (j : Nat) c, row[j]? = some c → (renL f row)[j]? = some (c.ren f) := fun row j c h => by rw [renL_get, h]; rfl
  refine .slc _ rows' _ b off cap g h1 h2 h3 (fun hne => hF b (h4 (fun e => hne ?_))) (fun i row hi => ?_) (fun i j row c hi hj => h6 i j _ _ (up i row hi) (upj row j c hj)) (fun i j row c hi hj => ih i j _ _ (up i row hi) (upj row j c hj) c (wfL_get (wfR_get ha hi) hj) rfl) (fun i j row c hi hj => h8 i j _ _ (up i row hi) (upj row j c hj))
  ·cases rows' with
   | nil => rfl
   | cons r l => simp [renR] at e
  ·have := h5 i _ (up i row hi); rw [renL_len] at this; exact this
 | vp cs b off g h1 h2 _ h4 ih =>
  intro a ha e
  cases a <;> simp only [AV.ren, reduceCtorEq, AV.vp.injEq] at e
  rename_i ds
  subst e
  simp only [AV.wf] at ha
  have up : ∀ (j : Nat) c, ds[j]? = some c → (renL f ds)[j]? = some (c.ren f) := fun j c h => by rw [renL_get, h]; rfl
  exact .vp ds b off g (hF b h1) (fun j c hc => h2 j _ (up j c hc)) (fun j c hc => ih j _ (up j c hc) c (wfL_get ha hc) rfl) (fun j c hc => h4 j _ (up j c hc))
 | ptr id len z row off b h1 h2 =>
  intro a ha e
  cases a <;> simp only [AV.ren, reduceCtorEq, AV.ptr.injEq] at e
  rename_i id' len' z' row' off'
  obtain ⟨rfl, rfl, rfl, rfl, rfl⟩ := e
  simp only [AV.wf, decide_eq_true_eq] at ha
  obtain ⟨h3, h4⟩ := hH id' _ ha h1
  exact .ptr id' _ _ _ _ b h3 (by rw [h4]; exact h2)
 | vec id len h1 h2 =>
  intro a ha e
  cases a <;> simp only [AV.ren, reduceCtorEq, AV.vec.injEq] at e
  rename_i id' len'
  obtain ⟨rfl, rfl⟩ := e
  simp only [AV.wf, decide_eq_true_eq] at ha
  obtain ⟨h3, h4⟩ := hH id' _ ha h1
  have := RA.vec (D := D') (nu := nu') (o := o') (w := w) id' len h3 (by rw [h4]; exact h2)
  rw [h4] at this
  exact this
 | fn g first caps fi ca h1 h2 _ _ ih1 ih2 =>
  intro a ha e
  cases a <;> simp only [AV.ren, reduceCtorEq, AV.fn.injEq] at e
  rename_i g' fi' ca'
  obtain ⟨rfl, rfl, rfl⟩ := e
  rw [renL_len] at h1 h2
  simp only [AV.wf, Bool.and_eq_true] at ha
  exact .fn _ fi' ca' fi ca h1 h2 (fun i c x hc hx => ih1 i (c.ren f) x (by rw [renL_get, hc]; rfl) hx c (wfL_get ha.1 hc) rfl) (fun i c x hc hx => ih2 i (c.ren f) x (by rw [renL_get, hc]; rfl) hx c (wfL_get ha.2 hc) rfl)
 | full b x h1 _ ih =>
  intro a ha e
  cases a <;> simp only [AV.ren, reduceCtorEq, AV.full.injEq] at e
  rename_i b'
  simp only [AV.wf] at ha
  exact .full b' x h1 (ih b' ha e)
 | wit p b x S h0 h1 hc h2 _ ih =>
  intro a ha e
  cases a <;> simp only [AV.ren, reduceCtorEq, AV.wit.injEq] at e
  rename_i p' b'
  obtain ⟨rfl, e⟩ := e
  simp only [AV.wf] at ha
  exact .wit _ b' x S h0 (fun b hb => hF b (h1 b hb)) hc h2 (ih b' ha e)
 | mp rows b es cl h1 h2 h3 h4 h5 h6 _ ih =>
  intro a ha e
  cases a <;> simp only [AV.ren, reduceCtorEq, AV.mp.injEq] at e
  rename_i rows'
  subst e
  rw [renR_len] at h3
  simp only [AV.wf] at ha
  have up : ∀ (i : Nat) row, rows'[i]? = some row → (renR f rows')[i]? = some (renL f row) := fun i row h => by rw [renR_get, h]; rfl
  have upj : ∀ (row : List AV) (j : Nat) c, row[j]? = some c → (renL f row)[j]? = some (c.ren f) := fun row j c h => by rw [renL_get, h]; rfl
  exact .mp rows' b es cl (hF b h1) h2 h3 (fun i row hi => by have := h4 i _ (up i row hi); rw [renL_len] at this; exact this) h5 h6 (fun i j row c e hi hj he => ih i j _ _ e (up i row hi) (upj row j c hj) he c (wfL_get (wfR_get ha hi) hj) rfl)

/-! ### a call with some of its caller's objects -/
def sig (ids : List Nat) (n k : Nat) : Nat := if k < ids.length then ids.getD k 0 else n + (k - ids.length)
def putO (f : Nat → Nat) : List Nat → List (Option AObj) → List (Option AObj) → List (Option AObj)
 | i :: ids, x :: l, o => putO f ids l (o.set i (x.map (AObj.ren f)))
 | [], l, o => o ++ l.map (Option.map (AObj.ren f))
 | _ :: _, [], o => o

theorem putO_other (f : Nat → Nat) : ∀ (ids : List Nat) (l o : List (Option AObj)) (j : Nat), j ∉ ids → j < o.length → (putO f ids l o)[j]? = o[j]?
 | [], l, o, j, _, hj => by rw [putO, List.getElem?_append_left hj]
 | i :: ids, x :: l, o, j, hn, hj => by
  rw [putO, putO_other f ids l _ j (fun h => hn (List.mem_cons_of_mem _ h)) (by simpa using hj), List.getElem?_set_ne (fun e => hn (by rw [e]; exact List.mem_cons_self))]
 | _ :: _, [], _, _, _, _ => by rw [putO]
theorem putO_id (f : Nat → Nat) : ∀ (ids : List Nat) (l o : List (Option AObj)), ids.Nodup → (∀ i ∈ ids, i < o.length) → ∀ (k i : Nat) (x : Option AObj), ids[k]? = some i → l[k]? = some x → (putO f ids l o)[i]? = some (x.map (AObj.ren f))
 | [], l, o, _, _, k, i, x, h, _ => by simp at h
 | j :: ids, [], o, _, _, k, i, x, _, h => by simp at h
 | j :: ids, y :: l, o, hn, hb, 0, i, x, h1, h2 => by
  simp at h1 h2; subst h1; subst h2
  rw [putO, putO_other f ids l _ j (List.nodup_cons.1 hn).1 (by simpa using hb j List.mem_cons_self), List.getElem?_set_self (hb j List.mem_cons_self)]
 | j :: ids, y :: l, o, hn, hb, k + 1, i, x, h1, h2 => by
  rw [putO]
  exact putO_id f ids l _ (List.nodup_cons.1 hn).2 (fun a ha => by simpa using hb a (List.mem_cons_of_mem _ ha)) k i x (by simpa using h1) (by simpa using h2)
theorem putO_new (f : Nat → Nat) : ∀ (ids : List Nat) (l o : List (Option AObj)) (j : Nat), ids.length ≤ l.length → (putO f ids l o)[o.length + j]? = (l[ids.length + j]?).map (Option.map (AObj.ren f))
 | [], l, o, j, _ => by rw [putO, List.getElem?_append_right (by omega)]; simp
 | i :: ids, x :: l, o, j, h => by
  have := putO_new f ids l (o.set i (x.map (AObj.ren f))) j (by simpa using h)
  rw [putO]
  rw [List.length_set] at this
  rw [this]
  congr 1
  rw [List.length_cons, show ids.length + 1 + j = (ids.length + j) + 1 by omega, List.getElem?_cons_succ]
 | _ :: _, [], _, _, h => by simp at h

theorem idxOf_get : ∀ (ids : List Nat), ids.Nodup → ∀ (k i : Nat), ids[k]? = some i → ids.idxOf i = k
 | [], _, k, i, h => by simp at h
 | j :: ids, hn, 0, i, h => by simp at h; subst h; simp
 | j :: ids, hn, k + 1, i, h => by
  have h' : ids[k]? = some i := by simpa using h
  have hne : j ≠ i := fun e => (List.nodup_cons.1 hn).1 (by rw [e]; exact List.mem_of_getElem? h')
  rw [List.idxOf_cons, idxOf_get ids (List.nodup_cons.1 hn).2 k i h', beq_eq_false_iff_ne.2 hne]; rfl

theorem frame_in {o0 : List (Option AObj)} (ids : List Nat) (hro : RO D nu o w) (hnd : ids.Nodup) (ho : ids.map (fun i => o[i]?) = o0.map (fun x => some (x.map (AObj.ren (sig ids o.length)))))
  (hwo : ∀ (k : Nat) ob, o0[k]? = some (some ob) → wfR ids.length ob.rows = true) :
  RO (fun b => D b ∧ ¬ (b < w.heap.size ∧ ∃ id ob, id ∉ ids ∧ o[id]? = some (some ob) ∧ blkM (nu id ob.hl) = some b)) (fun k len => nu (sig ids o.length k) len) o0 w ∧ (∀ b, owned (fun k len => nu (sig ids o.length k) len) o0 b → owned nu o b) ∧
   (∀ b, Fz D nu o w b → Fz (fun b => D b ∧ ¬ (b < w.heap.size ∧ ∃ id ob, id ∉ ids ∧ o[id]? = some (some ob) ∧ blkM (nu id ob.hl) = some b)) (fun k len => nu (sig ids o.length k) len) o0 w b) ∧
   (∀ id len, id < ids.length → hdrOk o (sig ids o.length id) len → hdrOk o0 id len ∧ nu (sig ids o.length id) len = nu (sig ids o.length id) len) ∧
   ∀ (k : Nat) ob, o0[k]? = some (some ob) → ∃ i, ids[k]? = some i ∧ sig ids o.length k = i ∧ o[i]? = some (some (ob.ren (sig ids o.length))) := by
 have hlen : o0.length = ids.length := by have := congrArg List.length ho; simpa using this.symm
 have hget : ∀ (k i : Nat), ids[k]? = some i → ∃ x, o0[k]? = some x ∧ o[i]? = some (x.map (AObj.ren (sig ids o.length))) := fun k i hk => by
  have h1 := congrArg (fun l => l[k]?) ho
  simp only [List.getElem?_map, hk, Option.map_some] at h1
  have hlt : k < o0.length := by rw [hlen]; exact (List.getElem?_eq_some_iff.1 hk).1
  rw [List.getElem?_eq_getElem hlt, Option.map_some] at h1
  exact ⟨_, List.getElem?_eq_getElem hlt, Option.some.inj h1⟩
 have hb : ∀ i ∈ ids, i < o.length := fun i hi => by
  obtain ⟨k, hk⟩ := List.getElem?_of_mem hi
  obtain ⟨x, _, hx⟩ := hget k i hk
  exact (List.getElem?_eq_some_iff.1 hx).1
 have sigk : ∀ (k i : Nat), ids[k]? = some i → sig ids o.length k = i := fun k i hk => by
  have hlt := (List.getElem?_eq_some_iff.1 hk).1
  rw [sig, if_pos hlt, getD_some hk]
 generalize hs : sig ids o.length = σ at *
 let out : Nat → Prop := fun b => b < w.heap.size ∧ ∃ id ob, id ∉ ids ∧ o[id]? = some (some ob) ∧ blkM (nu id ob.hl) = some b
 let D0 : Nat → Prop := fun b => D b ∧ ¬ out b
 let nu0 : Nat → Nat → Value := fun k len => nu (σ k) len
 have obj0 : ∀ (k : Nat) ob, o0[k]? = some (some ob) → ∃ i, ids[k]? = some i ∧ σ k = i ∧ o[i]? = some (some (ob.ren σ)) := fun k ob hk => by
  have hlt : k < ids.length := by rw [← hlen]; exact (List.getElem?_eq_some_iff.1 hk).1
  have e := List.getElem?_eq_getElem hlt
  obtain ⟨x, q1, q2⟩ := hget k _ e
  rw [hk] at q1; cases q1
  exact ⟨_, e, sigk k _ e, q2⟩
 have own0 : ∀ b, owned nu0 o0 b → owned nu o b := fun b ⟨k, ob, h1, h2⟩ => by
  obtain ⟨i, q1, q2, q3⟩ := obj0 k ob h1
  refine ⟨i, _, q3, ?_⟩
  rw [AObj.ren_hl, ← q2]; exact h2
 have own0_out : ∀ b, owned nu0 o0 b → ¬ out b := fun b ⟨k, ob, h1, h2⟩ ⟨hlt, id, ob', hn, h3, h4⟩ => by
  obtain ⟨i, q1, q2, q3⟩ := obj0 k ob h1
  have hne : i ≠ id := fun e => hn (by rw [← e]; exact List.mem_of_getElem? q1)
  refine hro.sep i id _ _ b q3 h3 hne ?_ h4
  rw [AObj.ren_hl, ← q2]; exact h2
 have fz0 : ∀ b, Fz D nu o w b → Fz D0 nu0 o0 w b := fun b hf => ⟨hf.1, fun ho => hf.2.1 (own0 b ho), hf.2.2, fun ⟨_, id, ob, _, h3, h4⟩ => hf.2.1 ⟨id, ob, h3, h4⟩⟩
 have hdr0 : ∀ id len, id < ids.length → hdrOk o (σ id) len → hdrOk o0 id len ∧ nu0 id len = nu (σ id) len := fun k len hk hh => by
  refine ⟨?_, rfl⟩
  have e := List.getElem?_eq_getElem hk
  obtain ⟨x, q1, q2⟩ := hget k _ e
  obtain ⟨y, r1, r2⟩ := hh
  rw [sigk k _ e, q2] at r1
  cases r1
  refine ⟨x, q1, fun ob hx => ?_⟩
  subst hx
  have := r2 _ rfl
  rwa [AObj.ren_hl] at this
 have ro0 : RO D0 nu0 o0 w := by
  refine ⟨fun k ob hk => ?_, fun b hlt => ⟨hro.up b hlt, fun ho => by have := ho.1; omega⟩, fun k k' ob ob' b h1 h2 hne h3 h4 => ?_, hro.gl.fz (fun b hf => ⟨rfl, fz0 b hf⟩)⟩
  ·obtain ⟨i, q1, q2, q3⟩ := obj0 k ob hk
   rcases hro.obj i _ q3 with ⟨e1, e2, e3⟩ | ⟨g, cur, hr⟩ | ⟨g, es, cl, hmp⟩
   ·refine .inl ⟨e1, ?_, ?_⟩
    ·have : (renR σ ob.rows).length = 0 := by rw [show renR σ ob.rows = [] from e2]; rfl
     rw [renR_len] at this
     exact List.eq_nil_of_length_eq_zero this
    ·show nu (σ k) 0 = _
     rw [q2]; exact e3
   ·have hbk : blkM (nu i (ob.ren σ).hl) = some g := hr.blkEq
    have hg : D0 g := ⟨hr.dom, own0_out g ⟨k, ob, hk, by show blkM (nu (σ k) _) = _; rw [q2, ← AObj.ren_hl σ]; exact hbk⟩⟩
    have hup : ∀ (j : Nat) row, ob.rows[j]? = some row → (ob.ren σ).rows[j]? = some (renL σ row) := fun j row hj => by show (renR σ ob.rows)[j]? = _; rw [renR_get, hj]; rfl
    have hupc : ∀ (row : List AV) (j : Nat) c, row[j]? = some c → (renL σ row)[j]? = some (c.ren σ) := fun row j c hj => by rw [renL_get, hj]; rfl
    refine .inr (.inl ⟨g, cur, hr.blk, hg, fun e => ?_, fun e => ?_, hr.z, fun j row hj => ?_, fun j j' row c x h1 h2 h3 => ?_, fun j j' row c x h1 h2 h3 => hr.one j j' _ _ x (hup j row h1) (hupc row j' c h2) h3⟩)
    ·obtain ⟨p1, p2, p3⟩ := hr.box e
     refine ⟨?_, ?_, p3⟩
     ·show nu (σ k) 0 = _
      rw [q2]; exact p1
     ·have : (renR σ ob.rows).length = 1 := p2
      rwa [renR_len] at this
    ·obtain ⟨cap, p1, p2, p3, p4⟩ := hr.vec e
     have el : (ob.ren σ).rows.length = ob.rows.length := renR_len σ ob.rows
     rw [el] at p1 p2
     refine ⟨cap, ?_, p2, p3, p4⟩
     show nu (σ k) _ = _
     rw [q2]; exact p1
    ·have := hr.row j _ (hup j row hj)
     rw [renL_len] at this
     exact this
    ·exact (hr.cell j j' _ _ x (hup j row h1) (hupc row j' c h2) h3).unren (f := σ) (n := ids.length) fz0 hdr0 c (wfL_get (wfR_get (hwo k ob hk) h1) h2) rfl
   ·have hbk : blkM (nu i (ob.ren σ).hl) = some g := hmp.blkEq
    have hg : D0 g := ⟨hmp.dom, own0_out g ⟨k, ob, hk, by show blkM (nu (σ k) _) = _; rw [q2, ← AObj.ren_hl σ]; exact hbk⟩⟩
    refine .inr (.inr ⟨g, es, cl, hmp.rows rfl hg (by show nu (σ k) 0 = _; rw [q2]) rfl rfl (renR_len σ ob.rows).symm (fun j row hj => ⟨renL σ row, by show (renR σ ob.rows)[j]? = _; rw [renR_get, hj]; rfl, (renL_len σ row).symm, fun j' c hc => ⟨c.ren σ, by rw [renL_get, hc]; rfl, fun x hx => hx.unren (f := σ) (n := ids.length) fz0 hdr0 c (wfL_get (wfR_get (hwo k ob hk) hj) hc) rfl⟩⟩)⟩)
  ·obtain ⟨i, q1, q2, q3⟩ := obj0 k ob h1
   obtain ⟨i', q1', q2', q3'⟩ := obj0 k' ob' h2
   have hii : i ≠ i' := fun e => hne (by rw [← idxOf_get ids hnd k i q1, ← idxOf_get ids hnd k' i' q1', e])
   refine hro.sep i i' _ _ b q3 q3' hii ?_ ?_
   ·rw [AObj.ren_hl, ← q2]; exact h3
   ·rw [AObj.ren_hl, ← q2']; exact h4
 exact ⟨ro0, own0, fz0, hdr0, obj0⟩
theorem CallG.frame {f : FuncId} {args0 args : List AV} {o0 : List (Option AObj)} {Q : AV → List (Option AObj) → Prop} (ids : List Nat) (h : CallG P f args0 o0 Q) (hnd : ids.Nodup)
  (ho : ids.map (fun i => o[i]?) = o0.map (fun x => some (x.map (AObj.ren (sig ids o.length)))))
  (hargs : args = renL (sig ids o.length) args0) (hwa : wfL ids.length args0 = true) (hwo : ∀ (k : Nat) ob, o0[k]? = some (some ob) → wfR ids.length ob.rows = true) :
  CallG P f args o (fun r o' => ∃ r0 o1, Q r0 o1 ∧ r = r0.ren (sig ids o.length) ∧ o' = putO (sig ids o.length) ids o1 o) := by
 obtain ⟨hc, hq⟩ := h
 refine ⟨hc, fun D nu w vargs hro hra => ?_⟩
 subst hargs
 obtain ⟨ro0, own0, fz0, hdr0, obj0⟩ := frame_in ids hro hnd ho hwo
 have hlen : o0.length = ids.length := by have := congrArg List.length ho; simpa using this.symm
 have hget : ∀ (k i : Nat), ids[k]? = some i → ∃ x, o0[k]? = some x ∧ o[i]? = some (x.map (AObj.ren (sig ids o.length))) := fun k i hk => by
  have h1 := congrArg (fun l => l[k]?) ho
  simp only [List.getElem?_map, hk, Option.map_some] at h1
  have hlt : k < o0.length := by rw [hlen]; exact (List.getElem?_eq_some_iff.1 hk).1
  rw [List.getElem?_eq_getElem hlt, Option.map_some] at h1
  exact ⟨_, List.getElem?_eq_getElem hlt, Option.some.inj h1⟩
 have hb : ∀ i ∈ ids, i < o.length := fun i hi => by
  obtain ⟨k, hk⟩ := List.getElem?_of_mem hi
  obtain ⟨x, _, hx⟩ := hget k i hk
  exact (List.getElem?_eq_some_iff.1 hx).1
 have sigk : ∀ (k i : Nat), ids[k]? = some i → sig ids o.length k = i := fun k i hk => by
  have hlt := (List.getElem?_eq_some_iff.1 hk).1
  rw [sig, if_pos hlt, getD_some hk]
 have sign : ∀ k, ids.length ≤ k → sig ids o.length k = o.length + (k - ids.length) := fun k hk => by rw [sig, if_neg (by omega)]
 generalize hs : sig ids o.length = σ at *
 let out : Nat → Prop := fun b => b < w.heap.size ∧ ∃ id ob, id ∉ ids ∧ o[id]? = some (some ob) ∧ blkM (nu id ob.hl) = some b
 let D0 : Nat → Prop := fun b => D b ∧ ¬ out b
 let nu0 : Nat → Nat → Value := fun k len => nu (σ k) len
 have own0_out : ∀ b, owned nu0 o0 b → ¬ out b := fun b ⟨k, ob, h1, h2⟩ ⟨hlt, id, ob', hn, h3, h4⟩ => by
  obtain ⟨i, q1, q2, q3⟩ := obj0 k ob h1
  have hne : i ≠ id := fun e => hn (by rw [← e]; exact List.mem_of_getElem? q1)
  refine hro.sep i id _ _ b q3 h3 hne ?_ h4
  rw [AObj.ren_hl, ← q2]; exact h2
 have ra0 : RAs D0 nu0 o0 w args0 vargs := ⟨by have := hra.len; rwa [renL_len] at this, fun i c x hi hx =>
  (hra.at' i (c.ren σ) x (by rw [renL_get, hi]; rfl) hx).unren (f := σ) (n := ids.length) fz0 hdr0 c (wfL_get hwa hi) rfl⟩
 refine (hq D0 nu0 w vargs ro0 ra0).mono ?_
 rintro e w' ⟨v, nu1, o1, r0, rfl, hm, ro1, ra1, hQ⟩
 have hle : ids.length ≤ o1.length := by
  rcases Nat.eq_zero_or_pos ids.length with q | q
  ·omega
  ·have e := List.getElem?_eq_getElem (show ids.length - 1 < o0.length by omega)
   obtain ⟨h1, _⟩ := hm.hdr (ids.length - 1) 0 ⟨_, e, fun _ _ => Nat.zero_le _⟩
   have := hdrOk_lt h1
   omega
 let nu' : Nat → Nat → Value := fun id len => if id ∈ ids then nu1 (ids.idxOf id) len else if id < o.length then nu id len else nu1 (ids.length + (id - o.length)) len
 have nu_id : ∀ (k i : Nat) len, ids[k]? = some i → nu' i len = nu1 k len := fun k i len hk => by
  show (if _ then _ else _) = _
  rw [if_pos (List.mem_of_getElem? hk), idxOf_get ids hnd k i hk]
 have nu_old : ∀ id len, id ∉ ids → id < o.length → nu' id len = nu id len := fun id len h1 h2 => by
  show (if _ then _ else _) = _
  rw [if_neg h1, if_pos h2]
 have nu_sig : ∀ k len, nu' (σ k) len = nu1 k len := fun k len => by
  rcases Nat.lt_or_ge k ids.length with q | q
  ·have e := List.getElem?_eq_getElem q
   rw [sigk k _ e]; exact nu_id k _ len e
  ·rw [sign k q]
   show (if _ then _ else _) = _
   rw [if_neg (fun hmem => by have := hb _ hmem; omega), if_neg (by omega)]
   congr 1; omega
 have o_sig : ∀ k x, o1[k]? = some x → (putO σ ids o1 o)[σ k]? = some (x.map (AObj.ren σ)) := fun k x hk => by
  rcases Nat.lt_or_ge k ids.length with q | q
  ·have e := List.getElem?_eq_getElem q
   rw [sigk k _ e]
   exact putO_id σ ids o1 o hnd hb k _ x e hk
  ·rw [sign k q, putO_new σ ids o1 o _ hle, show ids.length + (k - ids.length) = k by omega, hk]; rfl
 -- an object of the new list: one of the callee's, or an old one
 have parts : ∀ id x, (putO σ ids o1 o)[id]? = some x → (∃ k y, id = σ k ∧ o1[k]? = some y ∧ x = y.map (AObj.ren σ)) ∨ (id ∉ ids ∧ id < o.length ∧ o[id]? = some x) := fun id x hx => by
  rcases Nat.lt_or_ge id o.length with q | q
  ·by_cases hmem : id ∈ ids
   ·obtain ⟨k, hk⟩ := List.getElem?_of_mem hmem
    have hk1 : k < o1.length := by have := (List.getElem?_eq_some_iff.1 hk).1; omega
    have := putO_id σ ids o1 o hnd hb k id _ hk (List.getElem?_eq_getElem hk1)
    rw [this] at hx
    exact .inl ⟨k, _, (sigk k id hk).symm, List.getElem?_eq_getElem hk1, (Option.some.inj hx).symm⟩
   ·rw [putO_other σ ids o1 o id hmem q] at hx
    exact .inr ⟨hmem, q, hx⟩
  ·obtain ⟨j, rfl⟩ : ∃ j, id = o.length + j := ⟨id - o.length, by omega⟩
   rw [putO_new σ ids o1 o j hle] at hx
   obtain ⟨y, hy, rfl⟩ := ren_some hx
   exact .inl ⟨ids.length + j, y, by rw [sign _ (by omega)]; omega, hy, rfl⟩
 have hF1 : ∀ b, Fz D0 nu1 o1 w' b → Fz D nu' (putO σ ids o1 o) w' b := fun b hf => ⟨hf.1, fun ⟨id, ob, h1, h2⟩ => by
  rcases parts id _ h1 with ⟨k, y, rfl, hy, e⟩ | ⟨h3, h4, h5⟩
  ·obtain ⟨ob0, rfl, rfl⟩ := ren_some (Option.map_eq_some_iff.2 (by obtain ⟨a, ha1, ha2⟩ := Option.map_eq_some_iff.1 e.symm; exact ⟨a, ha1, ha2⟩))
   rw [AObj.ren_hl, nu_sig] at h2
   exact hf.2.1 ⟨k, ob0, hy, h2⟩
  ·rw [nu_old id _ h3 h4] at h2
   exact hf.2.2.2 ⟨hro.owned_lt ⟨id, ob, h5, h2⟩, id, ob, h3, h5, h2⟩, hf.2.2.1⟩
 have hH1 : ∀ id len, hdrOk o1 id len → hdrOk (putO σ ids o1 o) (σ id) len ∧ nu' (σ id) len = nu1 id len := fun k len ⟨x, h1, h2⟩ => by
  refine ⟨⟨_, o_sig k x h1, fun y hy => ?_⟩, nu_sig k len⟩
  obtain ⟨z, rfl, rfl⟩ := Option.map_eq_some_iff.1 hy
  rw [AObj.ren_hl]; exact h2 z rfl
 have hmono : Mono nu o w nu' (putO σ ids o1 o) w' := by
  refine ⟨hm.os, hm.tape, hm.output, hm.size, fun id len hh => ?_, fun b hlt hno => ?_⟩
  ·have hlt := hdrOk_lt hh
   by_cases hmem : id ∈ ids
   ·obtain ⟨k, hk⟩ := List.getElem?_of_mem hmem
    have hkl := (List.getElem?_eq_some_iff.1 hk).1
    obtain ⟨g1, _⟩ := hdr0 k len hkl (by rw [sigk k id hk]; exact hh)
    obtain ⟨g3, g4⟩ := hm.hdr k len g1
    obtain ⟨g5, g6⟩ := hH1 k len g3
    rw [sigk k id hk] at g5 g6
    exact ⟨g5, by rw [g6, g4]; show nu (σ k) len = _; rw [sigk k id hk]⟩
   ·refine ⟨?_, nu_old id len hmem hlt⟩
    obtain ⟨x, h1, h2⟩ := hh
    exact ⟨x, by rw [putO_other σ ids o1 o id hmem hlt]; exact h1, h2⟩
  ·have hno0 : ¬ owned nu0 o0 b := fun ho => hno (own0 b ho)
   obtain ⟨g1, g2⟩ := hm.keep b hlt hno0
   refine ⟨g1, fun ⟨id, ob, h1, h2⟩ => ?_⟩
   rcases parts id _ h1 with ⟨k, y, rfl, hy, e⟩ | ⟨h3, h4, h5⟩
   ·obtain ⟨ob0, rfl, rfl⟩ := Option.map_eq_some_iff.1 e.symm
    rw [AObj.ren_hl, nu_sig] at h2
    exact g2 ⟨k, ob0, hy, h2⟩
   ·rw [nu_old id _ h3 h4] at h2
    exact hno ⟨id, ob, h5, h2⟩
 refine ⟨v, nu', putO σ ids o1 o, r0.ren σ, rfl, hmono, ?_, ra1.ren hF1 hH1, r0, o1, hQ, rfl, rfl⟩
 refine ⟨fun id ob hid => ?_, fun b hlt => hro.up b (Nat.le_trans hm.size hlt), fun id id' ob ob' b h1 h2 hne h3 h4 => ?_, hro.gl.mono hmono (fun _ _ h => h)⟩
 ·rcases parts id _ hid with ⟨k, y, rfl, hy, e⟩ | ⟨h3, h4, h5⟩
  ·obtain ⟨ob0, rfl, rfl⟩ := Option.map_eq_some_iff.1 e.symm
   rcases ro1.obj k ob0 hy with ⟨e1, e2, e3⟩ | ⟨g, cur, hr⟩ | ⟨g, es, cl, hmp⟩
   ·exact .inl ⟨e1, by show renR σ ob0.rows = []; rw [e2]; rfl, by rw [nu_sig]; exact e3⟩
   ·have el : (ob0.ren σ).rows.length = ob0.rows.length := renR_len σ ob0.rows
    have key : ∀ (i j : Nat) row c, (ob0.ren σ).rows[i]? = some row → row[j]? = some c → ∃ row0 c0, ob0.rows[i]? = some row0 ∧ row0[j]? = some c0 ∧ c = c0.ren σ := fun i j row c hi hj => by
     have hi' : (renR σ ob0.rows)[i]? = some row := hi
     rw [renR_get] at hi'
     obtain ⟨row0, hr0, rfl⟩ := ren_some hi'
     rw [renL_get] at hj
     obtain ⟨c0, hc0, rfl⟩ := ren_some hj
     exact ⟨row0, c0, hr0, hc0, rfl⟩
    refine .inr (.inl ⟨g, cur, hr.blk, hr.dom.1, fun e => ?_, fun e => ?_, hr.z, fun i row hi => ?_, fun i j row c x g1 g2 g3 => ?_, fun i j row c x g1 g2 g3 => ?_⟩)
    ·obtain ⟨p1, p2, p3⟩ := hr.box e
     exact ⟨by rw [nu_sig]; exact p1, by rw [el]; exact p2, p3⟩
    ·obtain ⟨cap, p1, p2, p3, p4⟩ := hr.vec e
     exact ⟨cap, by rw [nu_sig, el]; exact p1, by rw [el]; exact p2, p3, p4⟩
    ·have hi' : (renR σ ob0.rows)[i]? = some row := hi
     rw [renR_get] at hi'
     obtain ⟨row0, hr0, rfl⟩ := ren_some hi'
     rw [renL_len]; exact hr.row i row0 hr0
    ·obtain ⟨row0, c0, q1, q2, rfl⟩ := key i j row c g1 g2
     exact (hr.cell i j row0 c0 x q1 q2 g3).ren hF1 hH1
    ·obtain ⟨row0, c0, q1, q2, rfl⟩ := key i j row c g1 g2
     exact hr.one i j row0 c0 x q1 q2 g3
   ·refine .inr (.inr ⟨g, es, cl, hmp.rows rfl hmp.dom.1 (nu_sig k 0) rfl rfl (renR_len σ ob0.rows) (fun i row hi => ?_)⟩)
    have hi' : (renR σ ob0.rows)[i]? = some row := hi
    rw [renR_get] at hi'
    obtain ⟨row0, hr0, rfl⟩ := ren_some hi'
    refine ⟨row0, hr0, renL_len σ row0, fun j c hc => ?_⟩
    rw [renL_get] at hc
    obtain ⟨c0, hc0, rfl⟩ := ren_some hc
    exact ⟨c0, hc0, fun x hx => hx.ren hF1 hH1⟩
  ·rcases hro.obj id ob h5 with ⟨e1, e2, e3⟩ | ⟨g, cur, hr⟩ | ⟨g, es, cl, hmp⟩
   ·exact .inl ⟨e1, e2, by rw [nu_old id _ h3 h4]; exact e3⟩
   ·have hbk := hr.blkEq
    have hlt : g < w.heap.size := (Array.getElem?_eq_some_iff.1 hr.blk).1
    have hno0 : ¬ owned nu0 o0 g := fun ho => own0_out g ho ⟨hlt, id, ob, h3, h5, hbk⟩
    have hsame := (hm.keep g hlt hno0).1
    refine .inr (.inl ⟨g, cur, hsame.trans hr.blk, hr.dom, fun e => ?_, fun e => ?_, hr.z, hr.row, fun i j row c x g1 g2 g3 => (hr.cell i j row c x g1 g2 g3).mono hmono (fun _ _ h => h), hr.one⟩)
    ·rw [nu_old id _ h3 h4]; exact hr.box e
    ·rw [nu_old id _ h3 h4]; exact hr.vec e
   ·have hbk := hmp.blkEq
    have hlt : g < w.heap.size := (Array.getElem?_eq_some_iff.1 hmp.blk).1
    have hno0 : ¬ owned nu0 o0 g := fun ho => own0_out g ho ⟨hlt, id, ob, h3, h5, hbk⟩
    exact .inr (.inr ⟨g, es, cl, hmp.tr (hm.keep g hlt hno0).1 (fun h => h) (nu_old id _ h3 h4) (fun i j row c x _ _ hr => hr.mono hmono (fun _ _ h => h))⟩)
 ·have cross : ∀ (k id : Nat) (ob0 ob : AObj) (b : Nat), o1[k]? = some (some ob0) → blkM (nu1 k ob0.hl) = some b → id ∉ ids → o[id]? = some (some ob) → blkM (nu id ob.hl) = some b → False := fun k id ob0 ob b g1 g2 g3 g4 g5 => by
   rcases ro1.obj k ob0 g1 with ⟨e1, e2, e3⟩ | ⟨g, cur, hr⟩ | ⟨g, es, cl, hmp⟩
   ·simp only [AObj.hl, e1, e2, if_true, List.length_nil, e3, blkM, blkOf] at g2; cases g2
   ·have hbk := hr.blkEq
    rw [hbk] at g2; cases g2
    exact hr.dom.2 ⟨hro.owned_lt ⟨id, ob, g4, g5⟩, id, ob, g3, g4, g5⟩
   ·have hbk := hmp.blkEq
    rw [hbk] at g2; cases g2
    exact hmp.dom.2 ⟨hro.owned_lt ⟨id, ob, g4, g5⟩, id, ob, g3, g4, g5⟩
  rcases parts id _ h1 with ⟨k, y, rfl, hy, e⟩ | ⟨p3, p4, p5⟩
  ·obtain ⟨ob0, rfl, rfl⟩ := Option.map_eq_some_iff.1 e.symm
   rw [AObj.ren_hl, nu_sig] at h3
   rcases parts id' _ h2 with ⟨k', y', rfl, hy', e'⟩ | ⟨p3', p4', p5'⟩
   ·obtain ⟨ob0', rfl, rfl⟩ := Option.map_eq_some_iff.1 e'.symm
    rw [AObj.ren_hl, nu_sig] at h4
    exact ro1.sep k k' ob0 ob0' b hy hy' (fun e => hne (by rw [e])) h3 h4
   ·rw [nu_old id' _ p3' p4'] at h4
    exact cross k id' ob0 ob' b hy h3 p3' p5' h4
  ·rw [nu_old id _ p3 p4] at h3
   rcases parts id' _ h2 with ⟨k', y', rfl, hy', e'⟩ | ⟨p3', p4', p5'⟩
   ·obtain ⟨ob0', rfl, rfl⟩ := Option.map_eq_some_iff.1 e'.symm
    rw [AObj.ren_hl, nu_sig] at h4
    exact cross k' id ob0' ob b hy' h4 p3 p5 h3
   ·rw [nu_old id' _ p3' p4'] at h4
    exact hro.sep id id' ob ob' b p5 p5' hne h3 h4

def CallE (P : Program) (f : FuncId) (args : List AV) (o : List (Option AObj)) (r : AV) (o' : List (Option AObj)) : Prop := CallG P f args o (fun r' o'' => r' = r ∧ o'' = o')
theorem ACallV.fr {f : FuncId} {args args0 : List AV} {o0 o1 : List (Option AObj)} {r0 : AV} {K : AV → List (Option AObj) → Prop} (ids : List Nat) (h : CallE P f args0 o0 r0 o1) (hnd : ids.Nodup)
  (ho : ids.map (fun i => o[i]?) = o0.map (fun x => some (x.map (AObj.ren (sig ids o.length)))))
  (hargs : args = renL (sig ids o.length) args0) (hwa : wfL ids.length args0 = true) (hwo : ∀ (k : Nat) ob, o0[k]? = some (some ob) → wfR ids.length ob.rows = true)
  (k : K (r0.ren (sig ids o.length)) (putO (sig ids o.length) ids o1 o)) : ACallV P f args o K :=
 .two (CallG.frame ids h hnd ho hargs hwa hwo) (fun r o' hh => by
  obtain ⟨r1, o2, ⟨rfl, rfl⟩, rfl, rfl⟩ := hh
  exact k)

def AFw (n : Nat) (o2 : List (Option AObj)) (r0 r : AV) (o' : List (Option AObj)) : Prop := WkT o'.length [r0] [r] ∧ WkO o'.length o2 o' ∧ n ≤ o'.length
theorem CallE.enter {f : FuncId} {fn : Func} {c : Code} {args : List AV} {r : AV} {o' : List (Option AObj)} (hf : P.funcs[f]? = some fn) (hb : fn.body = some c) (hc : callOk P f = true) (hok : okCode c = true) (hmx : P.follows .mixedOrders = true)
  (h : AWp P o.length c ⟨args ++ List.replicate (fn.ntmps - args.length) .undef, o, .no⟩ (AEnd P fn.results.toList (fun r0 o2 => AFw o.length o2 r0 r o'))) : CallE P f args o r o' := by
 obtain ⟨hc', h2⟩ := CallG.enter hf hb hc hok hmx h
 refine ⟨hc', fun D nu w vargs hro hra => (h2 D nu w vargs hro hra).mono ?_⟩
 rintro e w' ⟨v, nu', o2, r0, rfl, hm, hro', hra', hw⟩
 have hs : RS ⟨0, none, fun _ => False⟩ D nu' ⟨[r0], o2, .no⟩ { tmps := #[v], defers := [] } w' := ⟨hro', ⟨rfl, fun i c x h1 h2 => by
  match i, h1, h2 with
  | 0, h1, h2 => cases h1; cases h2; exact hra'
  | i + 1, h1, h2 => simp at h1⟩, ⟨Nat.zero_le _, ⟨[], List.nodup_nil, rfl, fun x hx => (by cases hx)⟩, fun l hl => by cases hl⟩⟩
 have hk : Wk o.length ⟨[r0], o2, .no⟩ ⟨[r], o', .no⟩ := ⟨hw.1, hw.2.1, hw.2.2, rfl⟩
 have k2 := wk_good hk hs
 exact ⟨v, nu', o', r, rfl, hk.mono (Nat.le_refl _) hm, k2.ro, k2.tm.at' 0 r v rfl rfl, rfl, rfl⟩

/-! ### values that name no objects have no other names -/
mutual
theorem ren_wf0 (f : Nat → Nat) : ∀ a : AV, a.wf 0 = true → a.ren f = a
 | .undef, _ => rfl
 | .v _, _ => rfl
 | .agg cs, h => by rw [AV.ren, renL_wf0 f cs h]
 | .tup cs, h => by rw [AV.ren, renL_wf0 f cs h]
 | .slc z rows len, h => by rw [AV.ren, renR_wf0 f rows h]
 | .vp cs, h => by rw [AV.ren, renL_wf0 f cs h]
 | .ptr id _ _ _ _, h => by simp [AV.wf] at h
 | .vec id _, h => by simp [AV.wf] at h
 | .fn g a b, h => by
  simp only [AV.wf, Bool.and_eq_true] at h
  rw [AV.ren, renL_wf0 f a h.1, renL_wf0 f b h.2]
 | .full a, h => by rw [AV.ren, ren_wf0 f a h]
 | .wit p a, h => by rw [AV.ren, ren_wf0 f a h]
 | .mp rows, h => by rw [AV.ren, renR_wf0 f rows h]
theorem renL_wf0 (f : Nat → Nat) : ∀ l : List AV, wfL 0 l = true → renL f l = l
 | [], _ => rfl
 | a :: l, h => by
  simp only [wfL, Bool.and_eq_true] at h
  rw [renL, ren_wf0 f a h.1, renL_wf0 f l h.2]
theorem renR_wf0 (f : Nat → Nat) : ∀ l : List (List AV), wfR 0 l = true → renR f l = l
 | [], _ => rfl
 | a :: l, h => by
  simp only [wfR, Bool.and_eq_true] at h
  rw [renR, renL_wf0 f a h.1, renR_wf0 f l h.2]
end

/-! ### loops, by what they change -/
def keepT (m : Nat) (t : List AV) : List AV := t.take m ++ List.replicate (t.length - m) .undef
def upds (t : List AV) (l : List (Nat × AV)) : List AV := l.foldl (fun t p => t.set p.1 p.2) t
theorem awp_loopK {n0 : Nat} {Q : AExit → AS → Prop} {ι : Type} {c : Code} {t : List AV} {o : List (Option AObj)} {y : YSt} (m : Nat) (upd : ι → List (Nat × AV)) (mu : ι → Nat) (ok : ι → Prop) (i0 : ι) (h3 : ok i0) (h2 : Wk n0 ⟨t, o, y⟩ ⟨upds (keepT m t) (upd i0), o, y⟩)
  (h : ∀ i, ok i → ∀ K : AS → Prop, (∀ s2, LNext n0 (fun i => ⟨upds (keepT m t) (upd i), o, y⟩) mu ok (mu i) s2 → K s2) → AWp P n0 c ⟨upds (keepT m t) (upd i), o, y⟩ (ASeq K Q)) : AWp P n0 (.loop c) ⟨t, o, y⟩ Q :=
 awp_loop (fun i => ⟨upds (keepT m t) (upd i), o, y⟩) mu ok i0 _ .refl h2 h3 h
theorem awp_loopO {n0 : Nat} {Q : AExit → AS → Prop} {ι : Type} {c : Code} {t : List AV} {o : List (Option AObj)} {y : YSt} (m : Nat) (upd : ι → List (Nat × AV)) (ob : ι → List (Option AObj)) (mu : ι → Nat) (ok : ι → Prop) (i0 : ι) (h3 : ok i0) (h2 : Wk n0 ⟨t, o, y⟩ ⟨upds (keepT m t) (upd i0), ob i0, y⟩)
  (h : ∀ i, ok i → ∀ K : AS → Prop, (∀ s2, LNext n0 (fun i => ⟨upds (keepT m t) (upd i), ob i, y⟩) mu ok (mu i) s2 → K s2) → AWp P n0 c ⟨upds (keepT m t) (upd i), ob i, y⟩ (ASeq K Q)) : AWp P n0 (.loop c) ⟨t, o, y⟩ Q :=
 awp_loop (fun i => ⟨upds (keepT m t) (upd i), ob i, y⟩) mu ok i0 _ .refl h2 h3 h

end
attribute [go_sem] Value.oneCell' renL renR AV.ren AObj.ren sig putO renR_wf0 keepT upds List.foldl_cons List.foldl_nil
end Go.Proofs.YtfflpdekojlnmaaDoor

/-! A region that draws its order, its operations told by relations over a world and what is noted beside it: one walk for all orders; no operation need be the last. No program is named here. -/
set_option linter.unusedSimpArgs false
set_option linter.unusedVariables false
namespace Go.Proofs.YtfflpdekojlnmaaDoor
open Go.RowKit

structure Notes where
 G : Type
 wd : G → World
 R : G → G → Prop
 rfl' : ∀ g, R g g
 trans' : ∀ a b c, R a b → R b c → R a c
 pre : Nat → G → Prop
structure SpecN (N : Notes) where
 p : Value → N.G → Prop
 st : ∀ v g g', N.R g g' → p v g → p v g'
def SpecN.any {N : Notes} : SpecN N := ⟨fun _ _ => True, fun _ _ _ _ _ => trivial⟩
def atN {N : Notes} (L : List (SpecN N)) (i : Nat) : SpecN N := L.getD i SpecN.any

section
variable {P : Program} {ops : Array Oper} {N : Notes}

def OutN (P : Program) (S : SpecN N) (j : Nat) (g : N.G) : Result Next → Prop
 | .ok (.value u) w' => ∃ g', N.wd g' = w' ∧ N.R g g' ∧ (∀ i, i ≠ j → N.pre i g → N.pre i g') ∧ S.p u g'
 | .ok .skip w' => ∃ g', N.wd g' = w' ∧ N.R g g' ∧ (∀ i, i ≠ j → N.pre i g → N.pre i g') ∧ S.p undef g'
 | .ok (.enter f args) w' => Calls P f args w' (fun e w'' => ∃ v g', e = .returned v ∧ N.wd g' = w'' ∧ N.R g g' ∧ (∀ i, i ≠ j → N.pre i g → N.pre i g') ∧ S.p v g')
 | _ => False

end
end Go.Proofs.YtfflpdekojlnmaaDoor

/-! The abstract walk: regions that draw their order and fill new variables (boxes) of the call's own, in whatever order. -/
set_option linter.unusedSimpArgs false
set_option linter.unusedVariables false
namespace Go.Proofs.YtfflpdekojlnmaaDoor
open Go.RowKit

mutual
theorem ren_id : ∀ a : AV, a.ren (fun x => x) = a
 | .undef => rfl
 | .v _ => rfl
 | .agg cs => by rw [AV.ren, renL_id cs]
 | .tup cs => by rw [AV.ren, renL_id cs]
 | .slc z rows len => by rw [AV.ren, renR_id rows]
 | .vp cs => by rw [AV.ren, renL_id cs]
 | .ptr id _ _ _ _ => rfl
 | .vec id _ => rfl
 | .fn g a b => by rw [AV.ren, renL_id a, renL_id b]
 | .full a => by rw [AV.ren, ren_id a]
 | .wit p a => by rw [AV.ren, ren_id a]
 | .mp rows => by rw [AV.ren, renR_id rows]
theorem renL_id : ∀ l : List AV, renL (fun x => x) l = l
 | [] => rfl
 | a :: l => by rw [renL, ren_id a, renL_id l]
theorem renR_id : ∀ l : List (List AV), renR (fun x => x) l = l
 | [] => rfl
 | a :: l => by rw [renR, renL_id a, renR_id l]
end

section
variable {D D' : Nat → Prop} {nu nu' : Nat → Nat → Value} {o o' : List (Option AObj)} {w w' : World} {P : Program}

end

/-! ### notes: which boxes are laid, which are filled -/
structure BG (w0 : World) (tz : Nat → TypeId × Nat) where
 w : World
 n : Nat → Option (Nat × Option (Array Value))
 base : Below w0.heap.size w0 w
 lay : ∀ i b c, n i = some (b, c) → w0.heap.size ≤ b ∧ ∃ C : Array Value, w.heap[b]? = some (.cells C (tz i).1 (0, 0)) ∧ C.size = (tz i).2 ∧ (∀ x ∈ C.toList, x.oneCell' = true) ∧ ∀ C', c = some C' → C = C'
 inj : ∀ i j b c c', n i = some (b, c) → n j = some (b, c') → i = j
def BG.box {w0 : World} {tz : Nat → TypeId × Nat} (g : BG w0 tz) (b : Nat) : Prop := ∃ i c, g.n i = some (b, c)
def BG.opn {w0 : World} {tz : Nat → TypeId × Nat} (g : BG w0 tz) (b : Nat) : Prop := ∃ i, g.n i = some (b, none)
structure BR {w0 : World} {tz : Nat → TypeId × Nat} (g g' : BG w0 tz) : Prop where
 size : g.w.heap.size ≤ g'.w.heap.size
 same : ∀ b, b < g.w.heap.size → ¬ g.opn b → g'.w.heap[b]? = g.w.heap[b]?
 up : ∀ i b c, g.n i = some (b, c) → ∃ c', g'.n i = some (b, c') ∧ ∀ C, c = some C → c' = some C
 new : ∀ i b c, g'.n i = some (b, c) → b < g.w.heap.size → ∃ c', g.n i = some (b, c')

def fills (l : List Oper) (j i : Nat) : Prop := ∃ T d x oj oi U, l[j]? = some oj ∧ oj.op = .store T (.tmp d) x ∧ l[i]? = some oi ∧ oi.op = .alloc U ∧ oi.dst = some d

def Dx {w0 : World} {tz : Nat → TypeId × Nat} (D : Nat → Prop) (g : BG w0 tz) (b : Nat) : Prop := D b ∧ ¬ g.box b

section
variable {w0 : World} {tz : Nat → TypeId × Nat} {l : List Oper} {D : Nat → Prop} {nu : Nat → Nat → Value} {o : List (Option AObj)} {P : Program}

inductive BE where
 | val (r : AV)
 | al
 | st (i : Nat) (row : List AV)

def BG.next (g : BG w0 tz) (w' : World) (h : Below g.w.heap.size g.w w') : BG w0 tz := ⟨w', g.n, below_step g.base h, fun i b c hi => by
 obtain ⟨h1, C, h2, h3⟩ := g.lay i b c hi
 exact ⟨h1, C, (h.block b (Array.getElem?_eq_some_iff.1 h2).1).trans h2, h3⟩, g.inj⟩

/-! ### the rule -/
structure Bx where
 d : Tmp
 k : Nat
 T : TypeId
 z : Nat
 row : Option (List AV)
def bxFind (d : Tmp) : List Bx → Option Bx
 | [] => none
 | b :: l => if b.d = d then some b else bxFind d l
def bxSet (d : Tmp) (r : List AV) : List Bx → List Bx
 | [] => []
 | b :: l => if b.d = d then { b with row := some r } :: l else b :: bxSet d r l
def bxDone : AS → List Bx → AS
 | s, [] => s
 | s, b :: l => bxDone ⟨s.t.set b.d (.ptr s.o.length 0 b.z 0 0), s.o ++ [some ⟨b.T, b.z, false, [b.row.getD []]⟩], s.y⟩ l
def ABAl : Option (Nat × Bool) → Option Tmp → Option (List AV) → Nat → (Tmp → Nat → Prop) → Prop
 | none, some d, some cs, n, K => (0 < cs.length ∧ d < n) ∧ K d cs.length
 | _, _, _, _, _ => False
def ABSt : Option (Nat × Bool) → Option Tmp → Option Bx → Option (List AV) → Option Nat → (List AV → Prop) → Prop
 | none, none, some b, some cs, some n, K => (cs.length = n ∧ n = b.z ∧ b.row.isNone = true ∧ wfL 0 cs = true) ∧ K cs
 | _, _, _, _, _, _ => False
def ABox (P : Program) (all : List Oper) : List Oper → Nat → AS → List Bx → (AS → Prop) → Prop
 | [], _, s, bx, Q => bx.all (fun b => b.row.isSome) = true ∧ Q (bxDone s bx)
 | oo :: rest, k, s, bx, Q => match oo.op with
  | .alloc T => ABAl oo.guard oo.dst (tZero P T) s.t.length (fun d z => ABox P all rest (k + 1) (s.put (some d) .undef s.o) (bx ++ [⟨d, k, T, z, none⟩]) Q)
  | .store T (.tmp d) x => ABSt oo.guard oo.dst (bxFind d bx) (s.ev x).cells? (tSize P T) (fun cs => ABox P all rest (k + 1) (s.put oo.dst .undef s.o) (bxSet d cs bx) Q)
  | _ => match oo.guard with
   | none => ADoS P oo.op s (fun r => ABox P all rest (k + 1) (s.put oo.dst r s.o) bx Q)
   | some (j, want) => AGd (gval all s j) want (ADoS P oo.op s (fun r => ABox P all rest (k + 1) (s.put oo.dst r s.o) bx Q)) (ABox P all rest (k + 1) (s.put oo.dst (.v Go.undef) s.o) bx Q)

def stTmp (o : Oper) : Option Tmp := match o.op with
 | .store _ (.tmp d) _ => some d
 | _ => none
def alTmp (o : Oper) : Option Tmp := match o.op with
 | .alloc _ => o.dst
 | _ => none
def boxB (ops : Array Oper) : Bool := (List.range ops.size).all fun j => (List.range ops.size).all fun i => match ops[j]?, ops[i]? with
 | some oj, some oi => match stTmp oj with
  | some d => (i == j || stTmp oi != some d) && (alTmp oi != some d || depB ops j i)
  | none => true
 | _, _ => true

structure BInv (l : List Oper) (tz : Nat → TypeId × Nat) (s : AS) (a : Act) (k : Nat) (sk : AS) (rs : List BE) (A : (Nat → Value) → Act) (bx : List Bx) : Prop where
 o : sk.o = s.o
 y : sk.y = s.y
 len : rs.length = k
 dfr : ∀ x, (A x).defers = a.defers
 size : ∀ x, sk.t.length = (A x).tmps.size
 val : ∀ x (t : Nat) c v, sk.t[t]? = some c → (A x).tmps[t]? = some v → c = .undef ∨ (s.t[t]? = some c ∧ a.tmps[t]? = some v) ∨ ∃ i, i < k ∧ (∃ oi, l[i]? = some oi ∧ oi.dst = some t) ∧ rs[i]? = some (.val c) ∧ v = x i
 box : ∀ b, b ∈ bx → b.k < k ∧ rs[b.k]? = some .al ∧ (∃ oi, l[b.k]? = some oi ∧ oi.op = .alloc b.T ∧ oi.dst = some b.d) ∧ tz b.k = (b.T, b.z) ∧ 0 < b.z ∧ (∀ x, (A x).tmps[b.d]? = some (x b.k)) ∧ (∀ r, b.row = some r → r.length = b.z ∧ ∃ j, j < k ∧ rs[j]? = some (.st b.k r))
 nod : (bx.map Bx.k).Nodup

end
end Go.Proofs.YtfflpdekojlnmaaDoor

/-! The abstract walk: regions that draw their order and fill new variables: the proof. -/
set_option linter.unusedSimpArgs false
set_option linter.unusedVariables false
namespace Go.Proofs.YtfflpdekojlnmaaDoor
open Go.RowKit

section
variable {w0 : World} {tz : Nat → TypeId × Nat} {l : List Oper} {D : Nat → Prop} {nu : Nat → Nat → Value} {o : List (Option AObj)} {P : Program}

end
end Go.Proofs.YtfflpdekojlnmaaDoor

/-! The abstract walk: regions that draw their order and fill new variables: the rule. -/
set_option linter.unusedSimpArgs false
set_option linter.unusedVariables false
namespace Go.Proofs.YtfflpdekojlnmaaDoor
open Go.RowKit

section
variable {l : List Oper} {D : Nat → Prop} {nu : Nat → Nat → Value} {o : List (Option AObj)} {P : Program}

/-! ### one operation behind the other -/
theorem abox_nil {all : List Oper} {k : Nat} {s : AS} {bx : List Bx} {Q : AS → Prop} (h : bx.all (fun b => b.row.isSome) = true ∧ Q (bxDone s bx)) : ABox P all [] k s bx Q := h
end
@[go_sem] theorem ABAl_some (d : Tmp) (cs : List AV) (n : Nat) (K : Tmp → Nat → Prop) : ABAl none (some d) (some cs) n K = ((0 < cs.length ∧ d < n) ∧ K d cs.length) := rfl
@[go_sem] theorem ABSt_some (b : Bx) (cs : List AV) (n : Nat) (K : List AV → Prop) : ABSt none none (some b) (some cs) (some n) K = ((cs.length = n ∧ n = b.z ∧ b.row.isNone = true ∧ wfL 0 cs = true) ∧ K cs) := rfl
@[congr] theorem ABAl_congr {g : Option (Nat × Bool)} {d : Option Tmp} {x y : Option (List AV)} {n m : Nat} {K : Tmp → Nat → Prop} (h : x = y) (k : n = m) : ABAl g d x n K = ABAl g d y m K := by rw [h, k]
@[congr] theorem ABSt_congr {g : Option (Nat × Bool)} {d : Option Tmp} {b b' : Option Bx} {x y : Option (List AV)} {n m : Option Nat} {K : List AV → Prop} (h1 : b = b') (h : x = y) (k : n = m) : ABSt g d b x n K = ABSt g d b' y m K := by rw [h1, h, k]
attribute [go_sem] List.all_cons List.all_nil bxFind bxSet bxDone Option.isNone_none Option.isSome_some Option.getD_some
@[go_sem] theorem AS_put_s (t : List AV) (o : List (Option AObj)) (y : YSt) : (AS.mk t o y).t = t := rfl
end Go.Proofs.YtfflpdekojlnmaaDoor
