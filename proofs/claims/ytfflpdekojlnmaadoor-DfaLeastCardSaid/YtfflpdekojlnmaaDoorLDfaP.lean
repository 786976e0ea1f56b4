/- The plain law of package dfa, first part: texts of numbers, the graph of sets, parts, the least graph, as functions of lists. No program is named here. -/
import Derived.Test.YtfflpdekojlnmaaDoorLBehP
import Derived.Lib.ItoaNum
set_option linter.unusedSimpArgs false
set_option linter.unusedVariables false
namespace Go.Proofs.YtfflpdekojlnmaaDoor
open Go.RowKit

theorem seqbI {s t : ByteArray} : seqb s t = true ↔ s = t := toList_inj
theorem snocInd {α : Type} {p : List α → Prop} (h0 : p []) (h1 : ∀ l a, p l → p (l ++ [a])) (l : List α) : p l := by
 rw [← List.reverse_reverse l]
 induction l.reverse with
 | nil => exact h0
 | cons a l ih => rw [List.reverse_cons]; exact h1 _ _ ih
theorem inj_le (n m : Nat) (f : Nat → Nat) (h1 : ∀ a, a < n → f a < m) (h2 : ∀ a b, a < n → b < n → f a = f b → a = b) : n ≤ m := by
 have hn : ((List.range n).map f).Nodup := by
  rw [List.Nodup, List.pairwise_iff_getElem]
  intro i j hi hj hij
  simp only [List.length_map, List.length_range] at hi hj
  simp only [List.getElem_map, List.getElem_range]
  intro e; have := h2 i j hi hj e; omega
 have hs : ((List.range n).map f) ⊆ List.range m := fun x hx => by
  obtain ⟨a, ha, rfl⟩ := List.mem_map.1 hx
  exact List.mem_range.2 (h1 a (List.mem_range.1 ha))
 have := hn.length_le_of_subset hs
 simpa using this
/-! ### numerals -/
theorem digs_all (u : Nat) : ∀ c ∈ Lib.decDigits u, 48 ≤ c.toNat ∧ c.toNat ≤ 57 := by
 induction u using Nat.strongRecOn with
 | _ u ih =>
  intro c hc
  rw [Lib.decDigits] at hc
  split at hc
  ·simp only [List.mem_singleton] at hc; subst hc
   simp; omega
  ·rw [List.mem_append] at hc
   rcases hc with hc | hc
   ·exact ih (u / 10) (by omega) c hc
   ·simp only [List.mem_singleton] at hc; subst hc
    simp; omega
theorem digs_len (u : Nat) (h : u < 1000) : (Lib.decDigits u).length ≤ 3 := by
 rw [Lib.decDigits]; split
 ·simp
 ·rw [Lib.decDigits]; split
  ·simp
  ·rw [Lib.decDigits, dif_pos (by omega)]; simp
def undig (l : List UInt8) : Nat := l.foldl (fun a c => a * 10 + (c.toNat - 48)) 0
theorem undig_digs (u : Nat) : undig (Lib.decDigits u) = u := by
 induction u using Nat.strongRecOn with
 | _ u ih =>
  rw [Lib.decDigits]; split
  ·rename_i h; simp [undig]; omega
  ·rename_i h
   have := ih (u / 10) (by omega)
   rw [undig, List.foldl_append, ← undig, this]; simp; omega
theorem digs_inj {u v : Nat} (h : Lib.decDigits u = Lib.decDigits v) : u = v := by rw [← undig_digs u, ← undig_digs v, h]
theorem digs_pre {u v : Nat} {r s : List UInt8} (h : Lib.decDigits u ++ r = Lib.decDigits v ++ s) (hr : r = [] ∨ r.head? = some 32) (hs : s = [] ∨ s.head? = some 32) : u = v ∧ r = s := by
 have key : ∀ (a b r s : List UInt8), a ++ r = b ++ s → (∀ c ∈ a, 48 ≤ c.toNat ∧ c.toNat ≤ 57) → (∀ c ∈ b, 48 ≤ c.toNat ∧ c.toNat ≤ 57) → (r = [] ∨ r.head? = some 32) → (s = [] ∨ s.head? = some 32) → a = b ∧ r = s := by
  intro a
  induction a with
  | nil =>
   intro b r s h ha hb hr hs
   cases b with
   | nil => exact ⟨rfl, h⟩
   | cons c b =>
    have := hb c List.mem_cons_self
    rw [List.nil_append] at h; subst h
    rcases hr with hr | hr
    ·simp at hr
    ·simp at hr; subst hr; simp at this
  | cons d a ih =>
   intro b r s h ha hb hr hs
   cases b with
   | nil =>
    have := ha d List.mem_cons_self
    rw [List.nil_append] at h; subst h
    rcases hs with hs | hs
    ·simp at hs
    ·simp at hs; subst hs; simp at this
   | cons c b =>
    simp only [List.cons_append, List.cons.injEq] at h
    obtain ⟨rfl, h⟩ := h
    obtain ⟨h1, h2⟩ := ih b r s h (fun c hc => ha c (List.mem_cons_of_mem _ hc)) (fun c hc => hb c (List.mem_cons_of_mem _ hc)) hr hs
    exact ⟨by rw [h1], h2⟩
 obtain ⟨h1, h2⟩ := key _ _ _ _ h (digs_all u) (digs_all v) hr hs
 exact ⟨digs_inj h1, h2⟩

/-! ### the text of a set -/
def keyL (l : List Nat) : List UInt8 := l.flatMap (fun n => Lib.decDigits n ++ [32])
def keyB (l : List Nat) : ByteArray := ⟨(keyL l).toArray⟩
theorem keyL_inj : ∀ {l m : List Nat}, keyL l = keyL m → l = m
 | [], [], _ => rfl
 | [], b :: m, h => by simp [keyL] at h
 | a :: l, [], h => by simp [keyL] at h
 | a :: l, b :: m, h => by
  simp only [keyL, List.flatMap_cons, List.append_assoc] at h
  obtain ⟨h1, h2⟩ := digs_pre h (.inr rfl) (.inr rfl)
  simp only [List.cons_append, List.nil_append, List.cons.injEq, true_and] at h2
  rw [h1, keyL_inj (l := l) (m := m) h2]
theorem keyB_inj {l m : List Nat} (h : keyB l = keyB m) : l = m := by
 have : (keyB l).data.toList = (keyB m).data.toList := by rw [h]
 exact keyL_inj (by simpa [keyB] using this)

/-! ### where a text stands among some -/
def pos (l : List ByteArray) (s : ByteArray) : Option Nat := l.findIdx? (fun x => seqb s x)
theorem pos_none {l : List ByteArray} {s : ByteArray} : pos l s = none ↔ s ∉ l := by
 rw [pos, List.findIdx?_eq_none_iff]
 constructor
 ·intro h hm; have := h s hm; rw [seqbI.2 rfl] at this; cases this
 ·intro h x hx
  cases hh : seqb s x
  ·rfl
  ·rw [seqbI] at hh; subst hh; exact absurd hx h
theorem pos_some {l : List ByteArray} {s : ByteArray} {k : Nat} (h : pos l s = some k) : ∃ hk : k < l.length, l[k] = s := by
 rw [pos, List.findIdx?_eq_some_iff_getElem] at h
 obtain ⟨h1, h2, _⟩ := h
 exact ⟨h1, (seqbI.1 h2).symm⟩
theorem pos_lt {l : List ByteArray} {s : ByteArray} {k : Nat} (h : pos l s = some k) : k < l.length := (pos_some h).1

/-! ### the graph of sets -/
abbrev LRow := List (ByteArray × Nat)
structure SSt where
 all : List (List Nat)
 rows : List LRow
 ends : List Bool
section
variable (stp : List Nat → ByteArray → List Nat) (em : Bool) (la : List Nat)
def sIn (cur : List Nat) (st : List (List Nat) × LRow) (lab : ByteArray) : List (List Nat) × LRow :=
 if stp cur lab = [] then st else match pos (st.1.map keyB) (keyB (stp cur lab)) with
 | some k => (st.1, st.2 ++ [(lab, k)])
 | none => (st.1 ++ [stp cur lab], st.2 ++ [(lab, st.1.length)])
def sIns (cur : List Nat) (all : List (List Nat)) (labs : List ByteArray) : List (List Nat) × LRow := labs.foldl (sIn stp cur) (all, [])
theorem sIns_snoc (cur : List Nat) (all : List (List Nat)) (labs : List ByteArray) (l : ByteArray) : sIns stp cur all (labs ++ [l]) = sIn stp cur (sIns stp cur all labs) l := by rw [sIns, List.foldl_append]; rfl
def sCur (st : SSt) : List Nat := st.all.getD st.rows.length []
def sEnd (st : SSt) : Bool := (st.rows.length == 0 && em) || (sCur st).any (fun p => la.contains p)
def sNext (labs : List ByteArray) (st : SSt) : SSt := ⟨(sIns stp (sCur st) st.all labs).1, st.rows ++ [(sIns stp (sCur st) st.all labs).2], st.ends ++ [sEnd em la st]⟩
def sRun (labs : List ByteArray) : Nat → SSt → Option SSt
 | 0, st => some st
 | f + 1, st => if st.rows.length < st.all.length then (if 256 < (sNext stp em la labs st).all.length then none else sRun labs f (sNext stp em la labs st)) else some st
def s0 : SSt := ⟨[[0]], [], []⟩
def setsM (labs : List ByteArray) : Option SSt := sRun stp em la labs 257 s0
structure SOk (labs : List ByteArray) (st : SSt) : Prop where
 le : st.rows.length ≤ st.all.length
 max : st.all.length ≤ 256
 nd : (st.all.map keyB).Nodup
 ends : st.ends.length = st.rows.length
 row : ∀ r ∈ st.rows, (r.map Prod.fst).Sublist labs ∧ ∀ p ∈ r, p.2 < st.all.length
theorem sIn_ok {cur : List Nat} {a : List (List Nat) × LRow} {lab : ByteArray} (hn : (a.1.map keyB).Nodup) (hr : ∀ p ∈ a.2, p.2 < a.1.length) :
  ((sIn stp cur a lab).1.map keyB).Nodup ∧ (∀ p ∈ (sIn stp cur a lab).2, p.2 < (sIn stp cur a lab).1.length) ∧ a.1.length ≤ (sIn stp cur a lab).1.length ∧ (sIn stp cur a lab).1.length ≤ a.1.length + 1 ∧
  ((sIn stp cur a lab).2 = a.2 ∨ ∃ k, (sIn stp cur a lab).2 = a.2 ++ [(lab, k)]) ∧ ∃ t, (sIn stp cur a lab).1 = a.1 ++ t := by
 unfold sIn
 split
 ·exact ⟨hn, hr, Nat.le_refl _, Nat.le_succ _, .inl rfl, [], by simp⟩
 ·split
  ·rename_i k hk
   have := pos_lt hk
   rw [List.length_map] at this
   refine ⟨hn, fun p hp => ?_, Nat.le_refl _, Nat.le_succ _, .inr ⟨_, rfl⟩, [], by simp⟩
   simp only [List.mem_append, List.mem_singleton] at hp
   rcases hp with hp | rfl
   ·exact hr p hp
   ·exact this
  ·rename_i hk
   refine ⟨?_, fun p hp => ?_, by simp, by simp, .inr ⟨_, rfl⟩, _, rfl⟩
   ·rw [List.map_append, List.map_singleton, List.nodup_append]
    refine ⟨hn, by simp, fun x hx y hy => ?_⟩
    simp only [List.mem_singleton] at hy; subst hy
    rintro rfl; exact pos_none.1 hk hx
   ·simp only [List.mem_append, List.mem_singleton, List.length_append, List.length_singleton] at hp ⊢
    rcases hp with hp | rfl
    ·have := hr p hp; omega
    ·simp
theorem sIns_ok {cur : List Nat} {all : List (List Nat)} (hn : (all.map keyB).Nodup) : ∀ (labs : List ByteArray),
  ((sIns stp cur all labs).1.map keyB).Nodup ∧ (∀ p ∈ (sIns stp cur all labs).2, p.2 < (sIns stp cur all labs).1.length) ∧ all.length ≤ (sIns stp cur all labs).1.length ∧ (sIns stp cur all labs).1.length ≤ all.length + labs.length ∧
  ((sIns stp cur all labs).2.map Prod.fst).Sublist labs ∧ ∃ t, (sIns stp cur all labs).1 = all ++ t := by
 refine snocInd ⟨hn, by simp [sIns], Nat.le_refl _, Nat.le_refl _, by simp [sIns], [], by simp [sIns]⟩ ?_
 ·rintro labs l ⟨h1, h2, h3, h4, h5, t, h6⟩
  obtain ⟨k1, k2, k3, k4, k5, t2, k6⟩ := sIn_ok stp (cur := cur) (lab := l) h1 h2
  rw [← sIns_snoc] at k1 k2 k3 k4 k5 k6
  refine ⟨k1, k2, by omega, by simp; omega, ?_, t ++ t2, by rw [k6, h6, List.append_assoc]⟩
  rcases k5 with k5 | ⟨k, k5⟩
  ·rw [k5]; exact h5.trans (List.sublist_append_left _ _)
  ·rw [k5, List.map_append]; exact h5.append (by simp)
theorem sOk0 (labs : List ByteArray) : SOk labs s0 := ⟨by simp [s0], by simp [s0], by simp [s0], rfl, by simp [s0]⟩
theorem sNext_ok {labs : List ByteArray} {st : SSt} (h : SOk labs st) (h1 : st.rows.length < st.all.length) (h2 : ¬ 256 < (sNext stp em la labs st).all.length) : SOk labs (sNext stp em la labs st) := by
 obtain ⟨k1, k2, k3, k4, k5, t, k6⟩ := sIns_ok stp (cur := sCur st) h.nd labs
 refine ⟨?_, by omega, k1, ?_, fun r hr => ?_⟩
 ·simp only [sNext, List.length_append, List.length_singleton]; omega
 ·simp only [sNext, List.length_append, List.length_singleton, h.ends]
 ·simp only [sNext, List.mem_append, List.mem_singleton] at hr ⊢
  rcases hr with hr | rfl
  ·obtain ⟨q1, q2⟩ := h.row r hr
   exact ⟨q1, fun p hp => by have := q2 p hp; omega⟩
  ·exact ⟨k5, k2⟩
theorem sRun_ok {labs : List ByteArray} : ∀ (f : Nat) {st st' : SSt}, SOk labs st → 257 ≤ f + st.rows.length → sRun stp em la labs f st = some st' → SOk labs st' ∧ st'.rows.length = st'.all.length
 | 0, st, st', h, hf, e => by
  simp only [sRun, Option.some.injEq] at e; subst e
  have := h.le; have := h.max; omega
 | f + 1, st, st', h, hf, e => by
  rw [sRun] at e
  split at e
  ·rename_i h1
   split at e
   ·cases e
   ·rename_i h2
    exact sRun_ok f (sNext_ok stp em la h h1 h2) (by simp only [sNext, List.length_append, List.length_singleton]; omega) e
  ·cases e
   exact ⟨h, by have := h.le; omega⟩
end

/-! ### parts -/
section
variable (rows : List LRow)
def pKey (part : List Nat) (p : Nat) (row : LRow) : List UInt8 := Lib.decDigits p ++ row.flatMap (fun e => 32 :: (e.1.data.toList ++ 32 :: Lib.decDigits (part.getD e.2 0)))
def pKeyB (part : List Nat) (p : Nat) (row : LRow) : ByteArray := ⟨(pKey part p row).toArray⟩
theorem pKey_snoc (part : List Nat) (p : Nat) (row : LRow) (e : ByteArray × Nat) : pKey part p (row ++ [e]) = pKey part p row ++ 32 :: (e.1.data.toList ++ 32 :: Lib.decDigits (part.getD e.2 0)) := by simp [pKey]
def pIn (part : List Nat) (st : List ByteArray × List Nat) (s : Nat) : List ByteArray × List Nat :=
 match pos st.1 (pKeyB part (part.getD s 0) (rows.getD s [])) with
 | some k => (st.1, st.2 ++ [k])
 | none => (st.1 ++ [pKeyB part (part.getD s 0) (rows.getD s [])], st.2 ++ [st.1.length])
def pIns (part : List Nat) (n : Nat) : List ByteArray × List Nat := (List.range n).foldl (pIn rows part) ([], [])
theorem pIns_succ (part : List Nat) (n : Nat) : pIns rows part (n + 1) = pIn rows part (pIns rows part n) n := by rw [pIns, List.range_succ, List.foldl_append]; rfl
def pNext (part : List Nat) : List Nat := (pIns rows part rows.length).2
def pMany (part : List Nat) : Nat := (pIns rows part rows.length).1.length
def pRun : Nat → List Nat → Nat → List Nat
 | 0, part, _ => part
 | f + 1, part, many => if pMany rows part = many then pNext rows part else pRun f (pNext rows part) (pMany rows part)
def p0 (ends : List Bool) : List Nat := ends.map (fun b => if b then 1 else 0)
def partsM (ends : List Bool) : List Nat := pRun rows (rows.length + 2) (p0 ends) 0
structure PInOk (part : List Nat) (n : Nat) : Prop where
 len : (pIns rows part n).2.length = n
 nd : (pIns rows part n).1.Nodup
 le : (pIns rows part n).1.length ≤ n
 at' : ∀ s, s < n → ∃ h : (pIns rows part n).2.getD s 0 < (pIns rows part n).1.length, (pIns rows part n).1[(pIns rows part n).2.getD s 0] = pKeyB part (part.getD s 0) (rows.getD s [])
 on : ∀ k, k < (pIns rows part n).1.length → ∃ s, s < n ∧ (pIns rows part n).2.getD s 0 = k
theorem pIns_ok (part : List Nat) : ∀ n, PInOk rows part n
 | 0 => ⟨rfl, by simp [pIns], by simp [pIns], fun s h => by omega, fun k h => by simp [pIns] at h⟩
 | n + 1 => by
  have ih := pIns_ok part n
  have e := pIns_succ rows part n
  unfold pIn at e
  have hg : ∀ (l : List Nat) (x s : Nat), l.length = n → s < n → (l ++ [x]).getD s 0 = l.getD s 0 := fun l x s h1 h2 => by
   rw [List.getD_eq_getElem?_getD, List.getElem?_append_left (by omega), List.getD_eq_getElem?_getD]
  have hl : ∀ (l : List Nat) (x : Nat), l.length = n → (l ++ [x]).getD n 0 = x := fun l x h1 => by
   rw [List.getD_eq_getElem?_getD, List.getElem?_append_right (by omega), h1]; simp
  cases hp : pos (pIns rows part n).1 (pKeyB part (part.getD n 0) (rows.getD n [])) with
  | some k =>
   rw [hp] at e
   simp only at e
   obtain ⟨hk, hk2⟩ := pos_some hp
   refine ⟨by rw [e]; simp [ih.len], by rw [e]; exact ih.nd, by rw [e]; have := ih.le; simp only; omega, fun s hs => ?_, fun j hj => ?_⟩
   ·simp only [e]
    rcases Nat.lt_or_ge s n with q | q
    ·simp only [hg _ _ s ih.len q]; exact ih.at' s q
    ·obtain rfl : s = n := by omega
     simp only [hl _ _ ih.len]; exact ⟨hk, hk2⟩
   ·simp only [e] at hj ⊢
    obtain ⟨s, q1, q2⟩ := ih.on j hj
    exact ⟨s, by omega, by rw [hg _ _ s ih.len q1]; exact q2⟩
  | none =>
   rw [hp] at e
   simp only at e
   refine ⟨by rw [e]; simp [ih.len], ?_, by rw [e]; have := ih.le; simp only [List.length_append, List.length_singleton]; omega, fun s hs => ?_, fun j hj => ?_⟩
   ·rw [e]
    simp only
    rw [List.nodup_append]
    refine ⟨ih.nd, by simp, fun x hx y hy => ?_⟩
    simp only [List.mem_singleton] at hy; subst hy
    rintro rfl; exact pos_none.1 hp hx
   ·simp only [e]
    rcases Nat.lt_or_ge s n with q | q
    ·obtain ⟨q1, q2⟩ := ih.at' s q
     simp only [hg _ _ s ih.len q]
     exact ⟨by simp only [List.length_append, List.length_singleton]; omega, by rw [List.getElem_append_left q1]; exact q2⟩
    ·obtain rfl : s = n := by omega
     simp only [hl _ _ ih.len]
     exact ⟨by simp, by rw [List.getElem_append_right (Nat.le_refl _)]; simp⟩
   ·simp only [e, List.length_append, List.length_singleton] at hj ⊢
    rcases Nat.lt_or_ge j (pIns rows part n).1.length with q | q
    ·obtain ⟨s, q1, q2⟩ := ih.on j q
     exact ⟨s, by omega, by rw [hg _ _ s ih.len q1]; exact q2⟩
    ·exact ⟨n, by omega, by rw [hl _ _ ih.len]; omega⟩
theorem pKeyB_part {part : List Nat} {p q : Nat} {r s : LRow} (h : pKeyB part p r = pKeyB part q s) : p = q := by
 have e : pKey part p r = pKey part q s := by
  have : (pKeyB part p r).data.toList = (pKeyB part q s).data.toList := by rw [h]
  simpa [pKeyB] using this
 have hh : ∀ t : LRow, (t.flatMap (fun e => 32 :: (e.1.data.toList ++ 32 :: Lib.decDigits (part.getD e.2 0)))) = [] ∨ (t.flatMap (fun e => 32 :: (e.1.data.toList ++ 32 :: Lib.decDigits (part.getD e.2 0)))).head? = some 32 := fun t => by
  cases t with
  | nil => exact .inl rfl
  | cons a t => exact .inr rfl
 exact (digs_pre e (hh r) (hh s)).1
def POn (part : List Nat) (many : Nat) : Prop := part.length = rows.length ∧ ∀ k, k < many → ∃ s, s < rows.length ∧ part.getD s 0 = k
theorem pNext_on (part : List Nat) : POn rows (pNext rows part) (pMany rows part) := ⟨(pIns_ok rows part _).len, (pIns_ok rows part _).on⟩
theorem pMany_le (part : List Nat) : pMany rows part ≤ rows.length := (pIns_ok rows part _).le
theorem pMany_mono {part : List Nat} {many : Nat} (h : POn rows part many) : many ≤ pMany rows part := by
 have ok := pIns_ok rows part rows.length
 -- each old part has a new number of its own
 have hch : ∀ k, ∃ m, k < many → m < pMany rows part ∧ ∃ s, s < rows.length ∧ part.getD s 0 = k ∧ (pNext rows part).getD s 0 = m := fun k => by
  by_cases hk : k < many
  ·obtain ⟨s, h1, h2⟩ := h.2 k hk
   obtain ⟨q1, _⟩ := ok.at' s h1
   exact ⟨_, fun _ => ⟨q1, s, h1, h2, rfl⟩⟩
  ·exact ⟨0, fun q => absurd q hk⟩
 obtain ⟨f, hf⟩ := Classical.axiomOfChoice hch
 have inj : ∀ a b, a < many → b < many → f a = f b → a = b := fun a b ha hb e => by
  obtain ⟨l1, s, k1, k2, k3⟩ := hf a ha
  obtain ⟨l2, t, m1, m2, m3⟩ := hf b hb
  obtain ⟨q1, q2⟩ := ok.at' s k1
  obtain ⟨r1, r2⟩ := ok.at' t m1
  have e1 : (pIns rows part rows.length).2.getD s 0 = (pIns rows part rows.length).2.getD t 0 := k3.trans (e.trans m3.symm)
  have : pKeyB part (part.getD s 0) (rows.getD s []) = pKeyB part (part.getD t 0) (rows.getD t []) := by rw [← q2, ← r2]; simp only [e1]
  rw [← k2, ← m2]; exact pKeyB_part this
 exact inj_le many (pMany rows part) f (fun a ha => (hf a ha).1) inj
end

/-! ### the least graph -/
structure QSt where
 order : List Nat
 rows : List LRow
 ends : List Bool
section
variable (rows : List LRow) (ends : List Bool) (part : List Nat)
def qpos (order : List Nat) (x : Nat) : Option Nat := (order.map (fun s => part.getD s 0)).findIdx? (fun y => x == y)
theorem qpos_none {order : List Nat} {x : Nat} : qpos part order x = none ↔ x ∉ order.map (fun s => part.getD s 0) := by
 rw [qpos, List.findIdx?_eq_none_iff]
 constructor
 ·intro h hm; have := h x hm; simp at this
 ·intro h y hy
  cases hh : x == y
  ·rfl
  ·rw [beq_iff_eq] at hh; subst hh; exact absurd hy h
theorem qpos_some {order : List Nat} {x k : Nat} (h : qpos part order x = some k) : ∃ hk : k < order.length, part.getD order[k] 0 = x := by
 rw [qpos, List.findIdx?_eq_some_iff_getElem] at h
 obtain ⟨h1, h2, _⟩ := h
 rw [List.length_map] at h1
 rw [List.getElem_map, beq_iff_eq] at h2
 exact ⟨h1, h2.symm⟩
def qIn (st : List Nat × LRow) (e : ByteArray × Nat) : List Nat × LRow :=
 match qpos part st.1 (part.getD e.2 0) with
 | some n => (st.1, st.2 ++ [(e.1, n)])
 | none => (st.1 ++ [e.2], st.2 ++ [(e.1, st.1.length)])
def qIns (order : List Nat) (row : LRow) : List Nat × LRow := row.foldl (qIn part) (order, [])
theorem qIns_snoc (order : List Nat) (row : LRow) (e : ByteArray × Nat) : qIns part order (row ++ [e]) = qIn part (qIns part order row) e := by rw [qIns, List.foldl_append]; rfl
def qCur (st : QSt) : Nat := st.order.getD st.rows.length 0
def qNext (st : QSt) : QSt := ⟨(qIns part st.order (rows.getD (qCur st) [])).1, st.rows ++ [(qIns part st.order (rows.getD (qCur st) [])).2], st.ends ++ [ends.getD (qCur st) false]⟩
def qRun : Nat → QSt → QSt
 | 0, st => st
 | f + 1, st => if st.rows.length < st.order.length then qRun f (qNext rows ends part st) else st
def q0 : QSt := ⟨[0], [], []⟩
def leastM : QSt := qRun rows ends part (rows.length + 1) q0
structure QOk (st : QSt) : Prop where
 le : st.rows.length ≤ st.order.length
 nd : (st.order.map (fun s => part.getD s 0)).Nodup
 lt : ∀ s ∈ st.order, s < rows.length
 ends : st.ends.length = st.rows.length
 row : ∀ k, k < st.rows.length → (st.rows.getD k []).map Prod.fst = (rows.getD (st.order.getD k 0) []).map Prod.fst ∧ ∀ p ∈ st.rows.getD k [], p.2 < st.order.length
theorem qIn_ok {n : Nat} {a : List Nat × LRow} {e : ByteArray × Nat} (he : e.2 < n) (hn : (a.1.map (fun s => part.getD s 0)).Nodup) (hl : ∀ s ∈ a.1, s < n) (hr : ∀ p ∈ a.2, p.2 < a.1.length) :
  ((qIn part a e).1.map (fun s => part.getD s 0)).Nodup ∧ (∀ s ∈ (qIn part a e).1, s < n) ∧ (∀ p ∈ (qIn part a e).2, p.2 < (qIn part a e).1.length) ∧ a.1.length ≤ (qIn part a e).1.length ∧
  (qIn part a e).2.map Prod.fst = a.2.map Prod.fst ++ [e.1] ∧ ∃ t, (qIn part a e).1 = a.1 ++ t := by
 unfold qIn
 split
 ·rename_i k hk
  obtain ⟨h1, _⟩ := qpos_some part hk
  refine ⟨hn, hl, fun p hp => ?_, Nat.le_refl _, by simp, [], by simp⟩
  simp only [List.mem_append, List.mem_singleton] at hp
  rcases hp with hp | rfl
  ·exact hr p hp
  ·exact h1
 ·rename_i hk
  refine ⟨?_, fun s hs => ?_, fun p hp => ?_, by simp, by simp, _, rfl⟩
  ·rw [List.map_append, List.map_singleton, List.nodup_append]
   refine ⟨hn, by simp, fun x hx y hy => ?_⟩
   simp only [List.mem_singleton] at hy; subst hy
   rintro rfl; exact (qpos_none part).1 hk hx
  ·simp only [List.mem_append, List.mem_singleton] at hs
   rcases hs with hs | rfl
   ·exact hl s hs
   ·exact he
  ·simp only [List.mem_append, List.mem_singleton, List.length_append, List.length_singleton] at hp ⊢
   rcases hp with hp | rfl
   ·have := hr p hp; omega
   ·simp
theorem qIns_ok {n : Nat} {order : List Nat} (hn : (order.map (fun s => part.getD s 0)).Nodup) (hl : ∀ s ∈ order, s < n) : ∀ row : LRow, (∀ p ∈ row, p.2 < n) →
  ((qIns part order row).1.map (fun s => part.getD s 0)).Nodup ∧ (∀ s ∈ (qIns part order row).1, s < n) ∧ (∀ p ∈ (qIns part order row).2, p.2 < (qIns part order row).1.length) ∧ order.length ≤ (qIns part order row).1.length ∧
  (qIns part order row).2.map Prod.fst = row.map Prod.fst ∧ ∃ t, (qIns part order row).1 = order ++ t := by
 refine snocInd (fun _ => ⟨hn, hl, by simp [qIns], Nat.le_refl _, by simp [qIns], [], by simp [qIns]⟩) ?_
 intro row e ih hr
 obtain ⟨h1, h2, h3, h4, h5, t, h6⟩ := ih (fun p hp => hr p (List.mem_append_left _ hp))
 obtain ⟨k1, k2, k3, k4, k5, t2, k6⟩ := qIn_ok part (hr e (by simp)) h1 h2 h3
 rw [← qIns_snoc] at k1 k2 k3 k4 k5 k6
 exact ⟨k1, k2, k3, by omega, by rw [k5, h5, List.map_append]; rfl, t ++ t2, by rw [k6, h6, List.append_assoc]⟩
theorem order_le {n : Nat} {order : List Nat} (hn : (order.map (fun s => part.getD s 0)).Nodup) (hl : ∀ s ∈ order, s < n) : order.length ≤ n := by
 have h1 : order.Nodup := by
  rw [List.Nodup, List.pairwise_iff_getElem] at hn ⊢
  intro i j hi hj hij e
  have := hn i j (by simpa using hi) (by simpa using hj) hij
  simp only [List.getElem_map, e] at this
  exact this rfl
 have := h1.length_le_of_subset (l₂ := List.range n) (fun s hs => List.mem_range.2 (hl s hs))
 simpa using this
theorem q0_ok (h : 0 < rows.length) : QOk rows part q0 := ⟨by simp [q0], by simp [q0], by simpa [q0] using h, rfl, fun k hk => by simp [q0] at hk⟩
theorem getD_snoc_lt {α : Type} {l : List α} {a d : α} {i : Nat} (h : i < l.length) : (l ++ [a]).getD i d = l.getD i d := by
 rw [List.getD_eq_getElem?_getD, List.getElem?_append_left h, List.getD_eq_getElem?_getD]
theorem getD_snoc_eq {α : Type} {l : List α} {a d : α} : (l ++ [a]).getD l.length d = a := by
 rw [List.getD_eq_getElem?_getD, List.getElem?_append_right (Nat.le_refl _)]; simp
theorem getD_app_lt {α : Type} {l t : List α} {d : α} {i : Nat} (h : i < l.length) : (l ++ t).getD i d = l.getD i d := by
 rw [List.getD_eq_getElem?_getD, List.getElem?_append_left h, List.getD_eq_getElem?_getD]
theorem getD_mem {α : Type} {l : List α} {d : α} {i : Nat} (h : i < l.length) : l.getD i d ∈ l := by
 rw [List.getD_eq_getElem?_getD, List.getElem?_eq_getElem h]; exact List.getElem_mem h
theorem qNext_ok {st : QSt} (hT : ∀ r ∈ rows, ∀ p ∈ r, p.2 < rows.length) (h : QOk rows part st) (h1 : st.rows.length < st.order.length) : QOk rows part (qNext rows ends part st) := by
 have hc : qCur st < rows.length := h.lt _ (getD_mem h1)
 obtain ⟨k1, k2, k3, k4, k5, t, k6⟩ := qIns_ok part (n := rows.length) h.nd h.lt (rows.getD (qCur st) []) (hT _ (getD_mem hc))
 refine ⟨?_, k1, k2, ?_, fun k hk => ?_⟩
 ·simp only [qNext, List.length_append, List.length_singleton]; omega
 ·simp only [qNext, List.length_append, List.length_singleton, h.ends]
 ·simp only [qNext, List.length_append, List.length_singleton] at hk ⊢
  rcases Nat.lt_or_ge k st.rows.length with q | q
  ·obtain ⟨q1, q2⟩ := h.row k q
   rw [getD_snoc_lt q, k6, getD_app_lt (by omega)]
   exact ⟨q1, fun p hp => by have := q2 p hp; simp only [List.length_append]; omega⟩
  ·obtain rfl : k = st.rows.length := by omega
   rw [getD_snoc_eq]
   refine ⟨?_, k3⟩
   rw [k5, k6, getD_app_lt h1]; rfl
theorem qRun_ok (hT : ∀ r ∈ rows, ∀ p ∈ r, p.2 < rows.length) : ∀ (f : Nat) {st : QSt}, QOk rows part st → rows.length + 1 ≤ f + st.rows.length → QOk rows part (qRun rows ends part f st) ∧ (qRun rows ends part f st).rows.length = (qRun rows ends part f st).order.length
 | 0, st, h, hf => by
  have := order_le part h.nd h.lt; have := h.le; omega
 | f + 1, st, h, hf => by
  rw [qRun]
  split
  ·rename_i h1
   exact qRun_ok hT f (qNext_ok rows ends part hT h h1) (by simp only [qNext, List.length_append, List.length_singleton]; omega)
  ·exact ⟨h, by have := h.le; omega⟩
end
end Go.Proofs.YtfflpdekojlnmaaDoor
