/- The plain law of package dfa, third part: parts that are parted no more; the least graph takes the same. No program is named here. -/
import Derived.Test.YtfflpdekojlnmaaDoorLDfaQ
set_option linter.unusedSimpArgs false
set_option linter.unusedVariables false
namespace Go.Proofs.YtfflpdekojlnmaaDoor
open Go.RowKit

theorem cut_at {a b x y : List UInt8} (h : a ++ 32 :: x = b ++ 32 :: y) (ha : 32 ∉ a) (hb : 32 ∉ b) : a = b ∧ x = y := by
 induction a generalizing b with
 | nil =>
  cases b with
  | nil => simpa using h
  | cons c b => simp at h hb; exact absurd h.1 hb.1
 | cons d a ih =>
  cases b with
  | nil => simp at h ha; exact absurd h.1.symm ha.1
  | cons c b =>
   simp only [List.cons_append, List.cons.injEq, List.mem_cons, not_or] at h ha hb
   obtain ⟨rfl, h⟩ := h
   obtain ⟨h1, h2⟩ := ih h ha.2 hb.2
   exact ⟨by rw [h1], h2⟩
section
variable (rows : List LRow) (ends : List Bool)
def nosp (r : LRow) : Prop := ∀ p ∈ r, 32 ∉ p.1.data.toList
def ptg (part : List Nat) (r : LRow) : List Nat := r.map (fun e => part.getD e.2 0)
theorem tail_inj {part : List Nat} : ∀ {r s : LRow}, nosp r → nosp s → r.flatMap (fun e => 32 :: (e.1.data.toList ++ 32 :: Lib.decDigits (part.getD e.2 0))) = s.flatMap (fun e => 32 :: (e.1.data.toList ++ 32 :: Lib.decDigits (part.getD e.2 0))) → r.map Prod.fst = s.map Prod.fst ∧ ptg part r = ptg part s
 | [], [], _, _, _ => ⟨rfl, rfl⟩
 | [], b :: s, _, _, h => by simp at h
 | a :: r, [], _, _, h => by simp at h
 | a :: r, b :: s, h1, h2, h => by
  simp only [List.flatMap_cons, List.cons_append, List.append_assoc, List.cons.injEq, true_and] at h
  obtain ⟨k1, k2⟩ := cut_at h (h1 a List.mem_cons_self) (h2 b List.mem_cons_self)
  have hh : ∀ t : LRow, (t.flatMap (fun e => 32 :: (e.1.data.toList ++ 32 :: Lib.decDigits (part.getD e.2 0)))) = [] ∨ (t.flatMap (fun e => 32 :: (e.1.data.toList ++ 32 :: Lib.decDigits (part.getD e.2 0)))).head? = some 32 := fun t => by
   cases t with
   | nil => exact .inl rfl
   | cons a t => exact .inr rfl
  obtain ⟨k3, k4⟩ := digs_pre k2 (hh r) (hh s)
  obtain ⟨k5, k6⟩ := tail_inj (fun p hp => h1 p (List.mem_cons_of_mem _ hp)) (fun p hp => h2 p (List.mem_cons_of_mem _ hp)) k4
  have : a.1 = b.1 := by
   cases ha : a.1 with | mk x => cases hb : b.1 with | mk y =>
   rw [ha, hb] at k1
   exact congrArg ByteArray.mk (Array.toList_inj.1 k1)
  exact ⟨by rw [List.map_cons, List.map_cons, k5, this], by rw [ptg, List.map_cons, k3]; rw [ptg, ptg] at k6; rw [k6]; rfl⟩
theorem pKeyB_inj {part : List Nat} {p q : Nat} {r s : LRow} (h1 : nosp r) (h2 : nosp s) (h : pKeyB part p r = pKeyB part q s) : p = q ∧ r.map Prod.fst = s.map Prod.fst ∧ ptg part r = ptg part s := by
 have e : pKey part p r = pKey part q s := by
  have : (pKeyB part p r).data.toList = (pKeyB part q s).data.toList := by rw [h]
  simpa [pKeyB] using this
 have hh : ∀ t : LRow, (t.flatMap (fun e => 32 :: (e.1.data.toList ++ 32 :: Lib.decDigits (part.getD e.2 0)))) = [] ∨ (t.flatMap (fun e => 32 :: (e.1.data.toList ++ 32 :: Lib.decDigits (part.getD e.2 0)))).head? = some 32 := fun t => by
  cases t with
  | nil => exact .inl rfl
  | cons a t => exact .inr rfl
 obtain ⟨k1, k2⟩ := digs_pre e (hh r) (hh s)
 exact ⟨k1, tail_inj h1 h2 k2⟩
structure Stb (part : List Nat) : Prop where
 ends : ∀ s t, s < rows.length → t < rows.length → part.getD s 0 = part.getD t 0 → ends.getD s false = ends.getD t false
 row : ∀ s t, s < rows.length → t < rows.length → part.getD s 0 = part.getD t 0 → (rows.getD s []).map Prod.fst = (rows.getD t []).map Prod.fst ∧ ptg part (rows.getD s []) = ptg part (rows.getD t [])
def nospR : Prop := ∀ r ∈ rows, nosp r
theorem nosp_at (h : nospR rows) (s : Nat) : nosp (rows.getD s []) := by
 rcases Nat.lt_or_ge s rows.length with q | q
 ·exact h _ (getD_mem q)
 ·rw [List.getD_eq_getElem?_getD, List.getElem?_eq_none q]; exact fun p hp => by simp at hp
theorem pNext_key {part : List Nat} {s t : Nat} (hs : s < rows.length) (ht : t < rows.length) : (pNext rows part).getD s 0 = (pNext rows part).getD t 0 ↔ pKeyB part (part.getD s 0) (rows.getD s []) = pKeyB part (part.getD t 0) (rows.getD t []) := by
 have ok := pIns_ok rows part rows.length
 obtain ⟨q1, q2⟩ := ok.at' s hs
 obtain ⟨r1, r2⟩ := ok.at' t ht
 constructor
 ·intro e
  have e1 : (pIns rows part rows.length).2.getD s 0 = (pIns rows part rows.length).2.getD t 0 := e
  rw [← q2, ← r2]; simp only [e1]
 ·intro e
  rw [← q2, ← r2] at e
  exact Classical.byContradiction fun hne => by
   rcases Nat.lt_or_ge ((pIns rows part rows.length).2.getD s 0) ((pIns rows part rows.length).2.getD t 0) with h | h
   ·exact List.pairwise_iff_getElem.1 ok.nd _ _ q1 r1 h e
   ·exact List.pairwise_iff_getElem.1 ok.nd _ _ r1 q1 (Nat.lt_of_le_of_ne h (fun q => hne q.symm)) e.symm
theorem pNext_part {part : List Nat} {s t : Nat} (hs : s < rows.length) (ht : t < rows.length) (h : (pNext rows part).getD s 0 = (pNext rows part).getD t 0) : part.getD s 0 = part.getD t 0 :=
 pKeyB_part ((pNext_key rows hs ht).1 h)
theorem pNext_lt {part : List Nat} {s : Nat} (hs : s < rows.length) : (pNext rows part).getD s 0 < pMany rows part := ((pIns_ok rows part rows.length).at' s hs).1
theorem pNext_same {part : List Nat} {many : Nat} (h : POn rows part many) (hlt : ∀ s, s < rows.length → part.getD s 0 < many) (he : pMany rows part = many) {s t : Nat} (hs : s < rows.length) (ht : t < rows.length) (hp : part.getD s 0 = part.getD t 0) : (pNext rows part).getD s 0 = (pNext rows part).getD t 0 := by
 refine Classical.byContradiction fun hne => ?_
 have hch : ∀ k, ∃ m, k < many → ∃ u, u < rows.length ∧ part.getD u 0 = k ∧ (pNext rows part).getD u 0 = m := fun k => by
  by_cases hk : k < many
  ·obtain ⟨u, h1, h2⟩ := h.2 k hk
   exact ⟨_, fun _ => ⟨u, h1, h2, rfl⟩⟩
  ·exact ⟨0, fun q => absurd q hk⟩
 obtain ⟨f, hf⟩ := Classical.axiomOfChoice hch
 have fin : ∀ a b, a < many → b < many → f a = f b → a = b := fun a b ha hb e => by
  obtain ⟨u, k1, k2, k3⟩ := hf a ha
  obtain ⟨v, m1, m2, m3⟩ := hf b hb
  have := pNext_part rows k1 m1 (k3.trans (e.trans m3.symm))
  rw [← k2, ← m2]; exact this
 have hk := hlt s hs
 -- one number too many
 obtain ⟨z, hz, hz2⟩ : ∃ z, z < rows.length ∧ part.getD z 0 = part.getD s 0 ∧ (pNext rows part).getD z 0 ≠ f (part.getD s 0) := by
  by_cases q : (pNext rows part).getD s 0 = f (part.getD s 0)
  ·exact ⟨t, ht, hp.symm, fun e => hne (q.trans e.symm)⟩
  ·exact ⟨s, hs, rfl, q⟩
 have := inj_le (many + 1) (pMany rows part) (fun a => if a < many then f a else (pNext rows part).getD z 0) (fun a ha => by
  split
  ·rename_i q
   obtain ⟨u, k1, _, k3⟩ := hf a q
   rw [← k3]; exact pNext_lt rows k1
  ·exact pNext_lt rows hz) (fun a b ha hb e => by
  have side : ∀ a, a < many → f a ≠ (pNext rows part).getD z 0 := fun a q e => by
   obtain ⟨u, k1, k2, k3⟩ := hf a q
   have := pNext_part rows k1 hz (k3.trans e)
   have ha' : a = part.getD s 0 := by rw [← k2, this, hz2.1]
   subst ha'
   exact hz2.2 e.symm
  split at e <;> split at e
  ·rename_i q1 q2; exact fin a b q1 q2 e
  ·rename_i q1 q2; exact absurd e (side a q1)
  ·rename_i q1 q2; exact absurd e.symm (side b q2)
  ·omega)
 omega
def PEnds (part : List Nat) : Prop := ∀ s t, s < rows.length → t < rows.length → part.getD s 0 = part.getD t 0 → ends.getD s false = ends.getD t false
theorem pRun_stb (hn : nospR rows) (hT : ∀ r ∈ rows, ∀ p ∈ r, p.2 < rows.length) (h0 : 0 < rows.length) : ∀ (f : Nat) {part : List Nat} {many : Nat}, PEnds rows ends part → POn rows part many → many ≤ rows.length → (many ≠ 0 → ∀ s, s < rows.length → part.getD s 0 < many) → rows.length + 1 ≤ f + many →
  Stb rows ends (pRun rows f part many) ∧ (pRun rows f part many).length = rows.length
 | 0, part, many, _, _, _, _, hf => by omega
 | f + 1, part, many, he, ho, hm, hlt, hf => by
  have hN : PEnds rows ends (pNext rows part) := fun s t hs ht h => he s t hs ht (pNext_part rows hs ht h)
  have hpos : 0 < pMany rows part := Nat.lt_of_le_of_lt (Nat.zero_le _) (pNext_lt rows (part := part) h0)
  rw [pRun]
  split
  ·rename_i hq
   refine ⟨⟨hN, fun s t hs ht h => ?_⟩, (pNext_on rows part).1⟩
   obtain ⟨_, k2, k3⟩ := pKeyB_inj (nosp_at rows hn s) (nosp_at rows hn t) ((pNext_key rows hs ht).1 h)
   refine ⟨k2, ?_⟩
   -- the old parts are the new ones
   have hlen : (rows.getD s []).length = (rows.getD t []).length := by simpa using congrArg List.length k2
   refine List.ext_getElem (by simp only [ptg, List.length_map, hlen]) fun i h1 h2 => ?_
   have e : (ptg part (rows.getD s []))[i]? = (ptg part (rows.getD t []))[i]? := by rw [k3]
   simp only [ptg, List.length_map] at h1 h2
   simp only [ptg, List.getElem?_map, List.getElem?_eq_getElem h1, List.getElem?_eq_getElem h2, Option.map_some, Option.some.injEq, List.getElem_map] at e ⊢
   exact pNext_same rows ho (hlt (by omega)) hq (hT _ (getD_mem hs) _ (List.getElem_mem h1)) (hT _ (getD_mem ht) _ (List.getElem_mem h2)) e
  ·rename_i hq
   have := pMany_mono rows ho
   exact pRun_stb hn hT h0 f hN (pNext_on rows part) (pMany_le rows part) (fun _ s hs => pNext_lt rows hs) (by omega)
theorem partsM_stb (hn : nospR rows) (hT : ∀ r ∈ rows, ∀ p ∈ r, p.2 < rows.length) (h0 : 0 < rows.length) (hl : ends.length = rows.length) : Stb rows ends (partsM rows ends) ∧ (partsM rows ends).length = rows.length := by
 refine pRun_stb rows ends hn hT h0 (rows.length + 2) (fun s t hs ht h => ?_) ⟨by simp [p0, hl], fun k h => by omega⟩ (Nat.zero_le _) (fun h => absurd rfl h) (by omega)
 have hg : ∀ u, u < rows.length → (p0 ends).getD u 0 = if ends.getD u false then 1 else 0 := fun u hu => by
  rw [p0, List.getD_eq_getElem?_getD, List.getElem?_map, List.getElem?_eq_getElem (by omega), List.getD_eq_getElem?_getD, List.getElem?_eq_getElem (by omega)]; rfl
 rw [hg s hs, hg t ht] at h
 cases h1 : ends.getD s false <;> cases h2 : ends.getD t false <;> simp_all
/-! ### the least graph takes the same -/
variable {rows ends}
theorem look_two {part : List Nat} : ∀ {r s : LRow}, r.map Prod.fst = s.map Prod.fst → ptg part r = ptg part s → ∀ l, (look r l = none ↔ look s l = none) ∧ ∀ a b, look r l = some a → look s l = some b → part.getD a 0 = part.getD b 0
 | [], [], _, _, l => ⟨Iff.rfl, fun a b h => by simp [look] at h⟩
 | [], b :: s, h, _, l => by simp at h
 | a :: r, [], h, _, l => by simp at h
 | a :: r, b :: s, h1, h2, l => by
  rw [List.map_cons, List.map_cons, List.cons.injEq] at h1
  rw [ptg, ptg, List.map_cons, List.map_cons, List.cons.injEq] at h2
  obtain ⟨k1, k2⟩ := look_two h1.2 h2.2 l
  cases hh : seqb l a.1
  ·have hb : seqb l b.1 = false := by rw [← h1.1]; exact hh
   simp only [look, List.find?_cons, hh, hb] at k1 k2 ⊢
   exact ⟨k1, k2⟩
  ·have hb : seqb l b.1 = true := by rw [← h1.1]; exact hh
   simp only [look, List.find?_cons, hh, hb, Option.map_some]
   exact ⟨by simp, fun x y hx hy => by cases hx; cases hy; exact h2.1⟩
theorem look_lt (hT : ∀ r ∈ rows, ∀ p ∈ r, p.2 < rows.length) {s : Nat} (hs : s < rows.length) {l : ByteArray} {t : Nat} (h : look (rows.getD s []) l = some t) : t < rows.length := hT _ (getD_mem hs) _ (look_mem h)
theorem stb_takes (hT : ∀ r ∈ rows, ∀ p ∈ r, p.2 < rows.length) {part : List Nat} (h : Stb rows ends part) : ∀ (w : List ByteArray) {s t : Nat}, s < rows.length → t < rows.length → part.getD s 0 = part.getD t 0 → gTakes rows ends s w = gTakes rows ends t w
 | [], s, t, hs, ht, e => h.ends s t hs ht e
 | l :: w, s, t, hs, ht, e => by
  obtain ⟨h1, h2⟩ := h.row s t hs ht e
  obtain ⟨k1, k2⟩ := look_two h1 h2 l
  rw [gTakes, gTakes, gRun, gRun]
  cases q1 : look (rows.getD s []) l with
  | none => rw [k1.1 q1]
  | some a =>
   cases q2 : look (rows.getD t []) l with
   | none => rw [k1.2 q2] at q1; cases q1
   | some b => exact stb_takes hT h w (look_lt hT hs q1) (look_lt hT ht q2) (k2 a b q1 q2)
def QRow (part order : List Nat) (r r' : LRow) : Prop := ∀ l, (look r l = none → look r' l = none) ∧ ∀ t, look r l = some t → ∃ k, look r' l = some k ∧ k < order.length ∧ part.getD (order.getD k 0) 0 = part.getD t 0
theorem QRow.mono {part order t : List Nat} {r r' : LRow} (h : QRow part order r r') : QRow part (order ++ t) r r' := fun l =>
 ⟨(h l).1, fun a ha => by
  obtain ⟨k, k1, k2, k3⟩ := (h l).2 a ha
  exact ⟨k, k1, by rw [List.length_append]; omega, by rw [getD_app_lt k2]; exact k3⟩⟩
theorem qIns_row (part : List Nat) (order : List Nat) : ∀ r : LRow, (r.map Prod.fst).Nodup → QRow part (qIns part order r).1 r (qIns part order r).2 := by
 refine snocInd (fun _ l => ⟨fun _ => by simp [qIns, look], fun t h => by simp [look] at h⟩) ?_
 intro r e ih hn l
 rw [List.map_append] at hn
 have hn' := List.nodup_append.1 hn
 have ih := ih hn'.1
 have hm : look r e.1 = none := look_none.2 fun q => hn'.2.2 e.1 q e.1 (by simp) rfl
 have key : ∀ (o' : List Nat) (k : Nat), (∃ t, o' = (qIns part order r).1 ++ t) → k < o'.length → part.getD (o'.getD k 0) 0 = part.getD e.2 0 → (look (r ++ [e]) l = none → look ((qIns part order r).2 ++ [(e.1, k)]) l = none) ∧ ∀ t, look (r ++ [e]) l = some t → ∃ j, look ((qIns part order r).2 ++ [(e.1, k)]) l = some j ∧ j < o'.length ∧ part.getD (o'.getD j 0) 0 = part.getD t 0 := by
  rintro _ k ⟨t2, rfl⟩ hk hp
  have e2 : r ++ [e] = r ++ [(e.1, e.2)] := rfl
  rw [e2, look_app, look_app, look_one, look_one]
  by_cases hl : l = e.1
  ·subst hl
   rw [hm, (ih _).1 hm, if_pos rfl, if_pos rfl]
   refine ⟨fun h => by simp at h, fun t h => ?_⟩
   simp only [Option.none_or, Option.some.injEq] at h; subst h
   exact ⟨k, rfl, hk, hp⟩
  ·rw [if_neg hl, if_neg hl]
   refine ⟨fun h => ?_, fun t h => ?_⟩
   ·cases q : look r l with
    | none => rw [(ih l).1 q]; rfl
    | some t => rw [q] at h; cases h
   ·cases q : look r l with
    | none => rw [q] at h; cases h
    | some t' =>
     rw [q] at h
     simp only [Option.some_or, Option.some.injEq] at h; subst h
     obtain ⟨j, j1, j2, j3⟩ := (ih l).2 t' q
     exact ⟨j, by rw [j1]; rfl, by rw [List.length_append]; omega, by rw [getD_app_lt j2]; exact j3⟩
 rw [qIns_snoc, qIn]
 split
 ·rename_i n hq
  obtain ⟨q1, q2⟩ := qpos_some part hq
  have q3 : (qIns part order r).1.getD n 0 = (qIns part order r).1[n] := by rw [List.getD_eq_getElem?_getD, List.getElem?_eq_getElem q1, Option.getD_some]
  exact key _ n ⟨[], by simp⟩ q1 (by show part.getD ((qIns part order r).1.getD n 0) 0 = _; rw [q3]; exact q2)
 ·exact key _ _ ⟨_, rfl⟩ (by simp) (by rw [getD_snoc_eq])
structure QW (rows : List LRow) (ends : List Bool) (part : List Nat) (st : QSt) : Prop where
 zero : st.order.getD 0 0 = 0
 row : ∀ k, k < st.rows.length → QRow part st.order (rows.getD (st.order.getD k 0) []) (st.rows.getD k [])
 end' : ∀ k, k < st.rows.length → st.ends.getD k false = ends.getD (st.order.getD k 0) false
theorem qNext_w (hT : ∀ r ∈ rows, ∀ p ∈ r, p.2 < rows.length) (hN : ∀ r ∈ rows, (r.map Prod.fst).Nodup) {part : List Nat} {st : QSt} (ho : QOk rows part st) (h : QW rows ends part st) (h1 : st.rows.length < st.order.length) : QW rows ends part (qNext rows ends part st) := by
 have hc : qCur st < rows.length := ho.lt _ (getD_mem h1)
 obtain ⟨_, _, _, k4, _, t, k6⟩ := qIns_ok part (n := rows.length) ho.nd ho.lt (rows.getD (qCur st) []) (hT _ (getD_mem hc))
 have hr := qIns_row part st.order (rows.getD (qCur st) []) (hN _ (getD_mem hc))
 have hg : ∀ k, k < st.order.length → (qNext rows ends part st).order.getD k 0 = st.order.getD k 0 := fun k hk => by simp only [qNext, k6]; exact getD_app_lt hk
 refine ⟨by rw [hg 0 (by omega)]; exact h.zero, fun k hk => ?_, fun k hk => ?_⟩
 ·have hk' : k < st.rows.length + 1 := by simpa [qNext] using hk
  rw [hg k (by omega)]
  rcases Nat.lt_or_ge k st.rows.length with q | q
  ·simp only [qNext, k6, getD_snoc_lt q]; exact (h.row k q).mono
  ·obtain rfl : k = st.rows.length := by omega
   simp only [qNext, getD_snoc_eq]; exact hr
 ·have hk' : k < st.rows.length + 1 := by simpa [qNext] using hk
  rw [hg k (by omega)]
  rcases Nat.lt_or_ge k st.rows.length with q | q
  ·simp only [qNext]; rw [getD_snoc_lt (by rw [ho.ends]; exact q)]; exact h.end' k q
  ·obtain rfl : k = st.rows.length := by omega
   simp only [qNext]; rw [← ho.ends, getD_snoc_eq, ho.ends]; rfl
theorem qRun_w (hT : ∀ r ∈ rows, ∀ p ∈ r, p.2 < rows.length) (hN : ∀ r ∈ rows, (r.map Prod.fst).Nodup) {part : List Nat} : ∀ (f : Nat) {st : QSt}, QOk rows part st → QW rows ends part st → QW rows ends part (qRun rows ends part f st)
 | 0, st, _, h => h
 | f + 1, st, ho, h => by
  rw [qRun]
  split
  ·rename_i h1
   exact qRun_w hT hN f (qNext_ok rows ends part hT ho h1) (qNext_w hT hN ho h h1)
  ·exact h
theorem least_ok (hT : ∀ r ∈ rows, ∀ p ∈ r, p.2 < rows.length) (hN : ∀ r ∈ rows, (r.map Prod.fst).Nodup) (h0 : 0 < rows.length) (part : List Nat) :
  QOk rows part (leastM rows ends part) ∧ (leastM rows ends part).rows.length = (leastM rows ends part).order.length ∧ QW rows ends part (leastM rows ends part) := by
 have h := qRun_ok rows ends part hT (rows.length + 1) (q0_ok rows part h0) (by simp [q0])
 exact ⟨h.1, h.2, qRun_w hT hN _ (q0_ok rows part h0) ⟨rfl, fun k hk => by simp [q0] at hk, fun k hk => by simp [q0] at hk⟩⟩
theorem qRun_ord {part : List Nat} : ∀ (f : Nat) {st : QSt}, st.order.length ≤ (qRun rows ends part f st).order.length
 | 0, st => Nat.le_refl _
 | f + 1, st => by
  rw [qRun]
  split
  ·have hq : ∀ (o : List Nat) (r : LRow), o.length ≤ (qIns part o r).1.length := fun o => by
    refine snocInd (by simp [qIns]) ?_
    intro r e ih
    rw [qIns_snoc, qIn]
    split
    ·exact ih
    ·simp only [List.length_append]; omega
   exact Nat.le_trans (hq _ _) (qRun_ord f (st := qNext rows ends part st))
  ·exact Nat.le_refl _
theorem least_takes (hT : ∀ r ∈ rows, ∀ p ∈ r, p.2 < rows.length) {part : List Nat} (hS : Stb rows ends part) {st : QSt} (ho : QOk rows part st) (hl : st.rows.length = st.order.length) (h : QW rows ends part st) : ∀ (w : List ByteArray) {k : Nat}, k < st.order.length → gTakes st.rows st.ends k w = gTakes rows ends (st.order.getD k 0) w
 | [], k, hk => h.end' k (by omega)
 | l :: w, k, hk => by
  have hr := h.row k (by omega) l
  have hs : st.order.getD k 0 < rows.length := ho.lt _ (getD_mem hk)
  rw [gTakes, gTakes, gRun, gRun]
  cases q : look (rows.getD (st.order.getD k 0) []) l with
  | none => rw [hr.1 q]
  | some t =>
   obtain ⟨j, j1, j2, j3⟩ := hr.2 t q
   rw [j1]
   have := least_takes hT hS ho hl h w j2
   rw [gTakes, gTakes] at this
   simp only
   rw [this]
   exact stb_takes hT hS w (ho.lt _ (getD_mem j2)) (look_lt hT hs q) j3
end
end Go.Proofs.YtfflpdekojlnmaaDoor
