/- The plain law of package dfa, second part: what the graphs take. No program is named here. -/
import Derived.Test.YtfflpdekojlnmaaDoorLDfaP
set_option linter.unusedSimpArgs false
set_option linter.unusedVariables false
namespace Go.Proofs.YtfflpdekojlnmaaDoor
open Go.RowKit

def look (row : LRow) (l : ByteArray) : Option Nat := (row.find? (fun p => seqb l p.1)).map Prod.snd
def gRun (rows : List LRow) (s : Nat) : List ByteArray → Option Nat
 | [] => some s
 | l :: w => match look (rows.getD s []) l with
  | some t => gRun rows t w
  | none => none
def gTakes (rows : List LRow) (ends : List Bool) (s : Nat) (w : List ByteArray) : Bool := match gRun rows s w with
 | some t => ends.getD t false
 | none => false
theorem look_none {row : LRow} {l : ByteArray} : look row l = none ↔ l ∉ row.map Prod.fst := by
 rw [look, Option.map_eq_none_iff, List.find?_eq_none]
 constructor
 ·intro h hm
  obtain ⟨p, hp, rfl⟩ := List.mem_map.1 hm
  exact h p hp (seqbI.2 rfl)
 ·intro h p hp he
  rw [seqbI] at he; subst he; exact h (List.mem_map_of_mem hp)
theorem look_mem {row : LRow} {l : ByteArray} {t : Nat} (h : look row l = some t) : (l, t) ∈ row := by
 rw [look, Option.map_eq_some_iff] at h
 obtain ⟨p, h1, rfl⟩ := h
 have h2 := List.find?_some h1
 rw [seqbI] at h2; subst h2
 exact List.mem_of_find?_eq_some h1
theorem look_app {row r2 : LRow} {l : ByteArray} : look (row ++ r2) l = (look row l).or (look r2 l) := by
 simp only [look, List.find?_append]
 cases row.find? (fun p => seqb l p.1) <;> rfl
theorem look_one {m l : ByteArray} {t : Nat} : look [(m, t)] l = if l = m then some t else none := by
 by_cases h : l = m
 ·subst h; simp [look, seqbI.2 rfl]
 ·have : seqb l m = false := by
   cases hh : seqb l m
   ·rfl
   ·exact absurd (seqbI.1 hh) h
  simp [look, this, h]
theorem look_at {row : LRow} (hn : (row.map Prod.fst).Nodup) {l : ByteArray} {t : Nat} (h : (l, t) ∈ row) : look row l = some t := by
 induction row with
 | nil => simp at h
 | cons a row ih =>
  rw [List.map_cons, List.nodup_cons] at hn
  rcases List.mem_cons.1 h with rfl | h
  ·simp [look, seqbI.2 rfl]
  ·have hne : seqb l a.1 = false := by
    cases hh : seqb l a.1
    ·rfl
    ·rw [seqbI] at hh; subst hh; exact absurd (List.mem_map_of_mem h) hn.1
   have := ih hn.2 h
   simpa [look, hne] using this

/-! ### sets -/
section
variable (stp : List Nat → ByteArray → List Nat) (em : Bool) (la : List Nat)
def SRow (labs : List ByteArray) (all : List (List Nat)) (cur : List Nat) (row : LRow) : Prop :=
 ∀ l, (l ∈ labs → stp cur l ≠ [] → ∃ k, look row l = some k ∧ all[k]? = some (stp cur l)) ∧ ((l ∉ labs ∨ stp cur l = []) → look row l = none)
theorem SRow.mono {labs : List ByteArray} {all t : List (List Nat)} {cur : List Nat} {row : LRow} (h : SRow stp labs all cur row) : SRow stp labs (all ++ t) cur row := fun l =>
 ⟨fun h1 h2 => by
  obtain ⟨k, k1, k2⟩ := (h l).1 h1 h2
  exact ⟨k, k1, by rw [List.getElem?_append_left (List.getElem?_eq_some_iff.1 k2).1]; exact k2⟩, (h l).2⟩
theorem sIns_row (cur : List Nat) {all : List (List Nat)} : ∀ labs : List ByteArray, labs.Nodup → SRow stp labs (sIns stp cur all labs).1 cur (sIns stp cur all labs).2 := by
 refine snocInd (fun _ l => ⟨fun h => by simp at h, fun _ => by simp [sIns, look]⟩) ?_
 intro labs m ih hn l
 have hn' := List.nodup_append.1 hn
 have ih := ih hn'.1
 have hm : m ∉ labs := fun h => hn'.2.2 m h m (by simp) rfl
 rw [sIns_snoc, sIn]
 by_cases he : stp cur m = []
 ·rw [if_pos he]
  refine ⟨fun h1 h2 => ?_, fun h1 => ?_⟩
  ·rcases List.mem_append.1 h1 with h1 | h1
   ·exact (ih l).1 h1 h2
   ·simp only [List.mem_singleton] at h1; subst h1; exact absurd he h2
  ·by_cases hl : stp cur l = []
   ·exact (ih l).2 (.inr hl)
   ·rcases h1 with h1 | h1
    ·exact (ih l).2 (.inl (fun q => h1 (List.mem_append_left _ q)))
    ·exact absurd h1 hl
 ·rw [if_neg he]
  have nl : l ≠ m → (l ∈ labs ++ [m] ↔ l ∈ labs) := fun h => by simp [h]
  split
  ·rename_i k hk
   obtain ⟨hk1, hk2⟩ := pos_some hk
   rw [List.getElem_map] at hk2
   have hk3 := keyB_inj hk2
   rw [List.length_map] at hk1
   refine ⟨fun h1 h2 => ?_, fun h1 => ?_⟩
   ·rw [look_app, look_one]
    by_cases hlm : l = m
    ·subst hlm
     exact ⟨k, by rw [(ih l).2 (.inl hm), if_pos rfl]; rfl, by rw [List.getElem?_eq_getElem hk1, hk3]⟩
    ·obtain ⟨j, j1, j2⟩ := (ih l).1 ((nl hlm).1 h1) h2
     exact ⟨j, by rw [j1]; rfl, j2⟩
   ·rw [look_app, look_one]
    have hlm : l ≠ m := fun e => by subst e; rcases h1 with h1 | h1 <;> simp_all
    rw [if_neg hlm, (ih l).2 (h1.imp (fun q r => q ((nl hlm).2 r)) id)]; rfl
  ·refine ⟨fun h1 h2 => ?_, fun h1 => ?_⟩
   ·rw [look_app, look_one]
    by_cases hlm : l = m
    ·subst hlm
     exact ⟨_, by rw [(ih l).2 (.inl hm), if_pos rfl]; rfl, by rw [List.getElem?_append_right (Nat.le_refl _)]; simp⟩
    ·obtain ⟨j, j1, j2⟩ := (ih l).1 ((nl hlm).1 h1) h2
     exact ⟨j, by rw [j1]; rfl, by rw [List.getElem?_append_left (List.getElem?_eq_some_iff.1 j2).1]; exact j2⟩
   ·rw [look_app, look_one]
    have hlm : l ≠ m := fun e => by subst e; rcases h1 with h1 | h1 <;> simp_all
    rw [if_neg hlm, (ih l).2 (h1.imp (fun q r => q ((nl hlm).2 r)) id)]; rfl
structure SW (labs : List ByteArray) (st : SSt) : Prop where
 zero : st.all[0]? = some [0]
 row : ∀ i, i < st.rows.length → SRow stp labs st.all (st.all.getD i []) (st.rows.getD i [])
 end' : ∀ i, i < st.rows.length → st.ends.getD i false = ((i == 0 && em) || (st.all.getD i []).any (fun p => la.contains p))
theorem sNext_w {labs : List ByteArray} (hn : labs.Nodup) {st : SSt} (ho : SOk labs st) (h : SW stp em la labs st) (h1 : st.rows.length < st.all.length) : SW stp em la labs (sNext stp em la labs st) := by
 obtain ⟨_, _, _, _, _, t, k6⟩ := sIns_ok stp (cur := sCur st) ho.nd labs
 have hr := sIns_row stp (sCur st) (all := st.all) labs hn
 have hg : ∀ i, i < st.all.length → (sNext stp em la labs st).all.getD i [] = st.all.getD i [] := fun i hi => by simp only [sNext, k6]; exact getD_app_lt hi
 refine ⟨?_, fun i hi => ?_, fun i hi => ?_⟩
 ·simp only [sNext, k6]; rw [List.getElem?_append_left (by omega)]; exact h.zero
 ·have hi' : i < st.rows.length + 1 := by simpa [sNext] using hi
  rw [hg i (by omega)]
  rcases Nat.lt_or_ge i st.rows.length with q | q
  ·simp only [sNext, k6, getD_snoc_lt q]; exact (h.row i q).mono
  ·obtain rfl : i = st.rows.length := by omega
   simp only [sNext, getD_snoc_eq]; exact hr
 ·have hi' : i < st.rows.length + 1 := by simpa [sNext] using hi
  rw [hg i (by omega)]
  rcases Nat.lt_or_ge i st.rows.length with q | q
  ·simp only [sNext]; rw [getD_snoc_lt (by rw [ho.ends]; exact q)]; exact h.end' i q
  ·obtain rfl : i = st.rows.length := by omega
   simp only [sNext]; rw [← ho.ends, getD_snoc_eq, sEnd, sCur, ho.ends]
theorem sRun_w {labs : List ByteArray} (hn : labs.Nodup) : ∀ (f : Nat) {st st' : SSt}, SOk labs st → SW stp em la labs st → sRun stp em la labs f st = some st' → SW stp em la labs st'
 | 0, st, st', _, h, e => by simp only [sRun, Option.some.injEq] at e; subst e; exact h
 | f + 1, st, st', ho, h, e => by
  rw [sRun] at e
  split at e
  ·rename_i h1
   split at e
   ·cases e
   ·rename_i h2
    exact sRun_w hn f (sNext_ok stp em la ho h1 h2) (sNext_w stp em la hn ho h h1) e
  ·cases e; exact h
theorem sets_ok {labs : List ByteArray} (hn : labs.Nodup) {st : SSt} (h : setsM stp em la labs = some st) : SOk labs st ∧ st.rows.length = st.all.length ∧ SW stp em la labs st := by
 have ho := sRun_ok stp em la 257 (sOk0 labs) (by simp [s0]) h
 exact ⟨ho.1, ho.2, sRun_w stp em la hn 257 (sOk0 labs) ⟨rfl, fun i hi => by simp [s0] at hi, fun i hi => by simp [s0] at hi⟩ h⟩
def Made (a : List Nat) : Prop := a ≠ [] ∧ (a = [0] ∨ ∃ cur l, a = stp cur l)
theorem sIns_made {cur : List Nat} {all : List (List Nat)} (h : ∀ a ∈ all, Made stp a) : ∀ labs : List ByteArray, ∀ a ∈ (sIns stp cur all labs).1, Made stp a := by
 refine snocInd h ?_
 intro labs l ih
 rw [sIns_snoc, sIn]
 split
 ·exact ih
 ·rename_i hne
  split
  ·exact ih
  ·intro a ha
   rcases List.mem_append.1 ha with ha | ha
   ·exact ih a ha
   ·simp only [List.mem_singleton] at ha; subst ha
    exact ⟨hne, .inr ⟨_, _, rfl⟩⟩
theorem sRun_made {labs : List ByteArray} : ∀ (f : Nat) {st st' : SSt}, (∀ a ∈ st.all, Made stp a) → sRun stp em la labs f st = some st' → ∀ a ∈ st'.all, Made stp a
 | 0, st, st', h, e => by simp only [sRun, Option.some.injEq] at e; subst e; exact h
 | f + 1, st, st', h, e => by
  rw [sRun] at e
  split at e
  ·split at e
   ·cases e
   ·exact sRun_made f (sIns_made stp h labs) e
  ·cases e; exact h
theorem sets_made {labs : List ByteArray} {st : SSt} (h : setsM stp em la labs = some st) : ∀ a ∈ st.all, Made stp a := sRun_made stp em la 257 (fun a ha => by
 simp only [s0, List.mem_singleton] at ha; subst ha; exact ⟨by simp, .inl rfl⟩) h
variable {stp em la}
theorem fold_nil (ha : ∀ l, stp [] l = []) : ∀ w : List ByteArray, w.foldl stp [] = []
 | [] => rfl
 | l :: w => by rw [List.foldl_cons, ha, fold_nil ha w]
theorem sets_run {labs : List ByteArray} {st : SSt} (hl : st.rows.length = st.all.length) (hw : SW stp em la labs st) (ha : ∀ l, stp [] l = []) (hx : ∀ cur l, l ∉ labs → stp cur l = []) : ∀ (w : List ByteArray) (i : Nat) (cur : List Nat), st.all[i]? = some cur → cur ≠ [] →
  (w.foldl stp cur = [] → gRun st.rows i w = none) ∧ (w.foldl stp cur ≠ [] → ∃ k, gRun st.rows i w = some k ∧ st.all[k]? = some (w.foldl stp cur))
 | [], i, cur, hi, hc => ⟨fun h => absurd h hc, fun _ => ⟨i, rfl, hi⟩⟩
 | l :: w, i, cur, hi, hc => by
  have hlt := (List.getElem?_eq_some_iff.1 hi).1
  have hr := hw.row i (by omega) l
  rw [List.getD_eq_getElem?_getD (l := st.all), hi, Option.getD_some] at hr
  rw [gRun, List.foldl_cons]
  by_cases he : stp cur l = []
  ·rw [hr.2 (.inr he), he, fold_nil ha]
   exact ⟨fun _ => rfl, fun h => absurd rfl h⟩
  ·have hm : l ∈ labs := Classical.byContradiction fun h => he (hx cur l h)
   obtain ⟨k, k1, k2⟩ := hr.1 hm he
   rw [k1]
   exact sets_run hl hw ha hx w k _ k2 he
theorem sets_from {labs : List ByteArray} {st : SSt} (hl : st.rows.length = st.all.length) (hw : SW stp em la labs st) (ha : ∀ l, stp [] l = []) (hx : ∀ cur l, l ∉ labs → stp cur l = []) (w : List ByteArray) {i : Nat} {cur : List Nat} (hi : st.all[i]? = some cur) (hc : cur ≠ []) {q : Nat} (hq : q ∈ w.foldl stp cur) (hq2 : q ∈ la) : gTakes st.rows st.ends i w = true := by
 obtain ⟨k, k1, k2⟩ := (sets_run hl hw ha hx w i cur hi hc).2 (List.ne_nil_of_mem hq)
 rw [gTakes, k1]
 simp only
 rw [hw.end' k (by rw [hl]; exact (List.getElem?_eq_some_iff.1 k2).1), List.getD_eq_getElem?_getD, k2, Option.getD_some]
 have : (w.foldl stp cur).any (fun p => la.contains p) = true := List.any_eq_true.2 ⟨q, hq, by simpa using hq2⟩
 rw [this, Bool.or_true]
theorem sets_takes {labs : List ByteArray} {st : SSt} (hl : st.rows.length = st.all.length) (hw : SW stp em la labs st) (ha : ∀ l, stp [] l = []) (hx : ∀ cur l, l ∉ labs → stp cur l = []) (h0 : ∀ cur l, 0 ∉ stp cur l) (hl0 : 0 ∉ la) (w : List ByteArray) :
  gTakes st.rows st.ends 0 w = ((w.length == 0 && em) || (w.foldl stp [0]).any (fun p => la.contains p)) := by
 obtain ⟨h1, h2⟩ := sets_run hl hw ha hx w 0 [0] hw.zero (by simp)
 by_cases he : w.foldl stp [0] = []
 ·rw [gTakes, h1 he, he]
  cases w with
  | nil => simp at he
  | cons l w => rfl
 ·obtain ⟨k, k1, k2⟩ := h2 he
  rw [gTakes, k1]
  simp only
  have hk := (List.getElem?_eq_some_iff.1 k2).1
  rw [hw.end' k (by omega), List.getD_eq_getElem?_getD, k2, Option.getD_some]
  cases w with
  | nil =>
   simp only [gRun, Option.some.injEq] at k1; subst k1
   rfl
  | cons l w =>
   have hne : k ≠ 0 := fun e => by
    subst e
    have := hw.zero.symm.trans k2
    simp only [Option.some.injEq] at this
    have hh : ∀ (w : List ByteArray) (cur : List Nat), 0 ∉ cur → 0 ∉ w.foldl stp cur := fun w => by
     induction w with
     | nil => exact fun cur h => h
     | cons m w ih => exact fun cur h => ih _ (h0 _ _)
    exact hh w (stp [0] l) (h0 _ _) (by rw [List.foldl_cons] at this; rw [← this]; simp)
   have : (k == 0) = false := by simpa using hne
   rw [this]; rfl
end
end Go.Proofs.YtfflpdekojlnmaaDoor
