/- The plain law of package dfa, fourth part: the automaton of an expression, as data: it takes just the expression's words, and from each state some word is taken. No program is named here. -/
import Derived.Test.YtfflpdekojlnmaaDoorLDfaR
import Derived.Test.YtfflpdekojlnmaaDoorLNfaR
set_option linter.unusedSimpArgs false
set_option linter.unusedVariables false
namespace Go.Proofs.YtfflpdekojlnmaaDoor
open Go.RowKit

/-! ### each position comes to a last one -/
theorem coacc_s {g : Nat → ByteArray} : ∀ (l : List Ex), l ≠ [] → (∀ x ∈ l, Fit x ∧ ∀ b p, b < p → p ≤ b + (labE x).length → ∃ w q, Chain (Fol x b) g p w q ∧ Lst x b q) → ∀ b p, b < p → p ≤ b + (labEs l).length → ∃ w q, Chain (FolS l b) g p w q ∧ LstS l b q
 | [], h, _, _, _, _, _ => absurd rfl h
 | x :: xs, _, h, b, p, h1, h2 => by
  rw [labEs, List.length_append] at h2
  have hS : ∀ w p q, Chain (FolS xs (b + (labE x).length)) g p w q → Chain (FolS (x :: xs) b) g p w q := fun w p q hc => hc.imp (fun p q hf => by rw [FolS]; exact .inr (.inl hf))
  have hX : ∀ w p q, Chain (Fol x b) g p w q → Chain (FolS (x :: xs) b) g p w q := fun w p q hc => hc.imp (fun p q hf => by rw [FolS]; exact .inl hf)
  rcases Nat.lt_or_ge (b + (labE x).length) p with q | q
  ·have hne : xs ≠ [] := by rintro rfl; simp [labEs] at h2; omega
   obtain ⟨w, r, k1, k2⟩ := coacc_s xs hne (fun y hy => h y (List.mem_cons_of_mem _ hy)) _ p q (by omega)
   exact ⟨w, r, hS _ _ _ k1, by rw [LstS]; exact .inr k2⟩
  ·obtain ⟨w, r, k1, k2⟩ := (h x List.mem_cons_self).2 b p h1 q
   cases hxs : xs with
   | nil => subst hxs; exact ⟨w, r, hX _ _ _ k1, by rw [LstS]; exact .inl ⟨rfl, k2⟩⟩
   | cons y ys =>
    obtain ⟨f, hf⟩ := fst_some (h y (by rw [hxs]; simp)).1 (b + (labE x).length)
    have hfS : FstS xs (b + (labE x).length) f := by rw [hxs, FstS]; exact .inl hf
    have hr := FstA_range (FstS_A hfS)
    obtain ⟨w2, r2, m1, m2⟩ := coacc_s xs (by rw [hxs]; simp) (fun y hy => h y (List.mem_cons_of_mem _ hy)) _ f hr.1 hr.2
    rw [← hxs]
    exact ⟨w ++ g f :: w2, r2, Chain.app.2 ⟨r, hX _ _ _ k1, f, by rw [FolS]; exact .inr (.inr ⟨k2, hfS⟩), rfl, hS _ _ _ m1⟩, by rw [LstS]; exact .inr m2⟩
theorem coacc_a {g : Nat → ByteArray} : ∀ (l : List Ex), (∀ x ∈ l, ∀ b p, b < p → p ≤ b + (labE x).length → ∃ w q, Chain (Fol x b) g p w q ∧ Lst x b q) → ∀ b p, b < p → p ≤ b + (labEs l).length → ∃ w q, Chain (FolA l b) g p w q ∧ LstA l b q
 | [], _, b, p, h1, h2 => by simp [labEs] at h2; omega
 | x :: xs, h, b, p, h1, h2 => by
  rw [labEs, List.length_append] at h2
  rcases Nat.lt_or_ge (b + (labE x).length) p with q | q
  ·obtain ⟨w, r, k1, k2⟩ := coacc_a xs (fun y hy => h y (List.mem_cons_of_mem _ hy)) _ p q (by omega)
   exact ⟨w, r, k1.imp (fun p q hf => by rw [FolA]; exact .inr hf), by rw [LstA]; exact .inr k2⟩
  ·obtain ⟨w, r, k1, k2⟩ := h x List.mem_cons_self b p h1 q
   exact ⟨w, r, k1.imp (fun p q hf => by rw [FolA]; exact .inl hf), by rw [LstA]; exact .inl k2⟩
theorem coacc {g : Nat → ByteArray} {x : Ex} (h : Fit x) : ∀ b p, b < p → p ≤ b + (labE x).length → ∃ w q, Chain (Fol x b) g p w q ∧ Lst x b q := by
 induction h with
 | lab s =>
  intro b p h1 h2
  rw [labE, if_pos rfl] at h2
  exact ⟨[], p, rfl, by rw [Lst, if_pos rfl]; simp at h2; omega⟩
 | many k s l hk hl hf ih =>
  intro b p h1 h2
  have hk1 : k ≠ 1 := by rcases hk with rfl | rfl <;> decide
  rw [labE_of hk1] at h2
  rcases hk with rfl | rfl
  ·obtain ⟨w, r, k1, k2⟩ := coacc_s l (by rintro rfl; simp at hl) (fun x hx => ⟨hf x hx, ih x hx⟩) b p h1 h2
   exact ⟨w, r, k1.imp (fun p q hf => by rw [Fol, if_neg (by decide), if_pos rfl]; exact hf), by rw [Lst, if_neg (by decide), if_pos rfl]; exact k2⟩
  ·obtain ⟨w, r, k1, k2⟩ := coacc_a l ih b p h1 h2
   exact ⟨w, r, k1.imp (fun p q hf => by rw [Fol, if_neg (by decide), if_neg (by decide)]; exact .inl hf), by rw [Lst, if_neg (by decide), if_neg (by decide)]; exact k2⟩
 | one k s x hk hf ih =>
  intro b p h1 h2
  have hk1 : k ≠ 1 := by rcases hk with rfl | rfl | rfl <;> decide
  have hk2 : k ≠ 2 := by rcases hk with rfl | rfl | rfl <;> decide
  rw [labE_of hk1] at h2
  obtain ⟨w, r, k1, k2⟩ := coacc_a [x] (fun y hy => by simp only [List.mem_singleton] at hy; subst hy; exact ih) b p h1 h2
  exact ⟨w, r, k1.imp (fun p q hf => by rw [Fol, if_neg hk1, if_neg hk2]; exact .inl hf), by rw [Lst, if_neg hk1, if_neg hk2]; exact k2⟩

/-! ### the automaton -/
def stepL (s : NSt) (cur : List Nat) (lab : ByteArray) : List Nat := bitsM (stepM s (fromM s (intsN cur)) lab)
theorem fromM_mem {s : NSt} (ok : NOk s) {l : List Nat} {q : Nat} : (fromM s (intsN l)).getLsbD q = true ↔ q ∈ l ∧ q ≤ s.labs.length := by
 rw [fromM, fromM_get ok]
 have : (q : Int) ∈ intsN l ↔ q ∈ l := by
  rw [intsN, List.mem_map]
  exact ⟨fun ⟨a, h1, h2⟩ => by rw [← Int.ofNat_inj.1 h2]; exact h1, fun h => ⟨q, h, rfl⟩⟩
 simp [this]
theorem stepL_mem {s : NSt} (ok : NOk s) {cur : List Nat} {lab : ByteArray} {q : Nat} : q ∈ stepL s cur lab ↔ ∃ p, p ∈ cur ∧ p ≤ s.labs.length ∧ (s.fs.getD p 0#32).getLsbD q = true ∧ labAt s q = lab := by
 rw [stepL, bitsM_mem, stepM_get ok]
 constructor
 ·rintro ⟨p, h1, h2, h3⟩
  obtain ⟨k1, k2⟩ := (fromM_mem ok).1 h1
  exact ⟨p, k1, k2, h2, toList_inj.1 (by simpa using h3)⟩
 ·rintro ⟨p, h1, h2, h3, rfl⟩
  exact ⟨p, (fromM_mem ok).2 ⟨h1, h2⟩, h3, rfl⟩
theorem stepL_bits {s : NSt} (ok : NOk s) {m : BitVec 32} (hm : ∀ p, m.getLsbD p = true → p ≤ s.labs.length) (lab : ByteArray) : stepL s (bitsM m) lab = bitsM (stepM s m lab) := by rw [stepL, fromM_bits ok hm]
theorem stepM_bd {s : NSt} (ok : NOk s) {m : BitVec 32} {lab : ByteArray} : ∀ p, (stepM s m lab).getLsbD p = true → p ≤ s.labs.length := fun p h => by
 obtain ⟨_, _, h, _⟩ := (stepM_get ok).1 h
 exact (ok.fol _ _ h).2
theorem stepL_run {s : NSt} (ok : NOk s) : ∀ (w : List ByteArray) (m : BitVec 32), (∀ p, m.getLsbD p = true → p ≤ s.labs.length) → w.foldl (stepL s) (bitsM m) = bitsM (w.foldl (stepM s) m)
 | [], m, _ => rfl
 | l :: w, m, h => by rw [List.foldl_cons, List.foldl_cons, stepL_bits ok h, stepL_run ok w _ (stepM_bd ok)]
structure ADt where
 rows : List LRow
 ends : List Bool
 labs : List ByteArray
noncomputable def setsX (x : Ex) (labs : List ByteArray) : Option SSt := setsM (stepL (newM x)) (newM x).em (bitsM (newM x).la) labs
def leastX (labs : List ByteArray) (st : SSt) : ADt := ⟨(leastM st.rows st.ends (partsM st.rows st.ends)).rows, (leastM st.rows st.ends (partsM st.rows st.ends)).ends, labs⟩
noncomputable def autoM (x : Ex) (labs : List ByteArray) : ADt ⊕ Int :=
 if exRight x then match setsX x labs with
  | some st => if 32 < (leastX labs st).rows.length then .inr 11 else .inl (leastX labs st)
  | none => .inr 11
 else .inr 2
structure AOk (A : ADt) : Prop where
 pos : 1 ≤ A.rows.length
 max : A.rows.length ≤ 32
 ends : A.ends.length = A.rows.length
 row : ∀ r ∈ A.rows, (r.map Prod.fst).Sublist A.labs ∧ ∀ p ∈ r, p.2 < A.rows.length
theorem sets_rows {labs : List ByteArray} {st : SSt} (ho : SOk labs st) (hl : st.rows.length = st.all.length) : ∀ r ∈ st.rows, ∀ p ∈ r, p.2 < st.rows.length := fun r hr p hp => by rw [hl]; exact (ho.row r hr).2 p hp
theorem sets_nd {labs : List ByteArray} (hn : labs.Nodup) {st : SSt} (ho : SOk labs st) : ∀ r ∈ st.rows, (r.map Prod.fst).Nodup := fun r hr => (ho.row r hr).1.nodup hn
theorem sets_nosp {labs : List ByteArray} (hs : ∀ l ∈ labs, 32 ∉ l.data.toList) {st : SSt} (ho : SOk labs st) : nospR st.rows := fun r hr p hp => hs _ ((ho.row r hr).1.subset (List.mem_map_of_mem hp))
structure ALaw' (x : Ex) (A : ADt) : Prop extends AOk A where
 takes : ∀ w, gTakes A.rows A.ends 0 w = exTakes x w
 alive : ∀ s, s < A.rows.length → ∃ w, gTakes A.rows A.ends s w = true
theorem fold_ne {s : NSt} (ok : NOk s) : ∀ (w : List ByteArray) {cur : List Nat} {p q : Nat}, p ∈ cur → p ≤ s.labs.length → Chain (fun p q => (s.fs.getD p 0#32).getLsbD q = true) (fun p => labAt s p) p w q → q ∈ w.foldl (stepL s) cur
 | [], cur, p, q, h1, h2, h3 => by cases h3; exact h1
 | l :: w, cur, p, q, h1, h2, ⟨r, k1, k2, k3⟩ => by
  rw [List.foldl_cons]
  exact fold_ne ok w ((stepL_mem ok).2 ⟨p, h1, h2, k1, k2⟩) (ok.fol _ _ k1).2 k3
theorem autoM_law {x : Ex} (hr : exRight x = true) {labs : List ByteArray} (hn : labs.Nodup) (hs : ∀ l ∈ labs, 32 ∉ l.data.toList) (hm : ∀ l ∈ labE x, l ∈ labs) {A : ADt} (h : autoM x labs = .inl A) : ALaw' x A := by
 have N := newM_law hr
 have F := (right_fit hr).1
 rw [autoM, if_pos hr] at h
 split at h
 ·rename_i st hst
  split at h
  ·cases h
  ·rename_i h32
   simp only [Sum.inl.injEq] at h
   obtain ⟨ho, hl, hw⟩ := sets_ok (stepL (newM x)) (newM x).em (bitsM (newM x).la) hn hst
   have hz0 : (st.all)[0]? = some [0] := hw.zero
   have hpos : 0 < st.rows.length := by rw [hl]; exact (List.getElem?_eq_some_iff.1 hz0).1
   have hT := sets_rows ho hl
   have hN := sets_nd hn ho
   obtain ⟨hS, hpl⟩ := partsM_stb st.rows st.ends (sets_nosp hs ho) hT hpos ho.ends
   obtain ⟨qo, ql, qw⟩ := least_ok (ends := st.ends) hT hN hpos (partsM st.rows st.ends)
   have ha : ∀ l, stepL (newM x) [] l = [] := fun l => List.eq_nil_iff_forall_not_mem.2 fun q hq => by
    obtain ⟨p, hp, _⟩ := (stepL_mem N.ok).1 hq; simp at hp
   have hlab : ∀ q, 1 ≤ q → q ≤ (newM x).labs.length → labAt (newM x) q ∈ labs := fun q h1 h2 => by
    rw [labAt, if_pos (by omega)]
    refine hm _ ?_
    rw [← N.labs]
    exact getD_mem (by omega)
   have hx : ∀ cur l, l ∉ labs → stepL (newM x) cur l = [] := fun cur l hl => List.eq_nil_iff_forall_not_mem.2 fun q hq => by
    obtain ⟨p, _, _, k, rfl⟩ := (stepL_mem N.ok).1 hq
    obtain ⟨q1, q2⟩ := N.ok.fol _ _ k
    exact hl (hlab q q1 q2)
   have h0 : ∀ cur l, 0 ∉ stepL (newM x) cur l := fun cur l hq => by
    obtain ⟨p, _, _, k, _⟩ := (stepL_mem N.ok).1 hq
    have := (N.ok.fol _ _ k).1; omega
   have hla : 0 ∉ bitsM (newM x).la := fun hq => by have := (N.ok.la _ (bitsM_mem.1 hq)).1; omega
   have hlen : A.rows.length = (leastM st.rows st.ends (partsM st.rows st.ends)).order.length := by rw [← h]; exact ql
   have hA : ∀ k w, k < A.rows.length → gTakes A.rows A.ends k w = gTakes st.rows st.ends ((leastM st.rows st.ends (partsM st.rows st.ends)).order.getD k 0) w := fun k w hk => by
    rw [← h]; exact least_takes hT hS qo ql qw w (by rw [← hlen]; exact hk)
   have hp1 : 1 ≤ A.rows.length := by
    rw [hlen]
    have := qo.le; rw [ql] at this
    refine Nat.one_le_iff_ne_zero.2 fun e => ?_
    have q0 := qRun_ord (rows := st.rows) (part := partsM st.rows st.ends) (ends := st.ends) (st.rows.length + 1) (st := q0)
    have : 1 ≤ (leastM st.rows st.ends (partsM st.rows st.ends)).order.length := q0
    omega
   refine ⟨⟨hp1, ?_, ?_, fun r hr => ?_⟩, fun w => ?_, fun s hs => ?_⟩
   ·have := h32; rw [h] at this; omega
   ·rw [← h]; exact qo.ends
   ·obtain ⟨k, hk, rfl⟩ := List.getElem_of_mem hr
    have hk' : k < (leastM st.rows st.ends (partsM st.rows st.ends)).rows.length := by rw [← h] at hk; exact hk
    obtain ⟨r1, r2⟩ := qo.row k hk'
    have e : A.rows[k] = (leastM st.rows st.ends (partsM st.rows st.ends)).rows.getD k [] := by
     subst h; rw [List.getD_eq_getElem?_getD, List.getElem?_eq_getElem hk']; rfl
    have hlabs : A.labs = labs := by rw [← h]; rfl
    rw [e, r1, hlabs, hlen]
    exact ⟨(ho.row _ (getD_mem (qo.lt _ (getD_mem (by rw [← ql]; exact hk'))))).1, r2⟩
   ·rw [hA 0 w (by omega), qw.zero, sets_takes hl hw ha hx h0 hla, ← takes_law hr, ← ends_law N.ok]
    have e0 : ([0] : List Nat) = bitsM (ofM 0) := by rfl
    rw [e0, stepL_run N.ok w (ofM 0) (fun p hp => by rw [ofM0_get] at hp; omega)]
    congr 1
    rw [Bool.eq_iff_iff, anyB_iff, List.any_eq_true]
    simp [runM]
   ·rw [hlen] at hs
    have hi := qo.lt _ (getD_mem (d := 0) hs)
    have hi' : (leastM st.rows st.ends (partsM st.rows st.ends)).order.getD s 0 < st.all.length := by omega
    obtain ⟨hne, hmade⟩ := sets_made (stepL (newM x)) (newM x).em (bitsM (newM x).la) hst _ (List.getElem_mem hi')
    obtain ⟨p, hp⟩ := List.exists_mem_of_ne_nil _ hne
    have hpb : p ≤ (newM x).labs.length := by
     rcases hmade with e | ⟨cur, l, e⟩
     ·rw [e] at hp; simp at hp; omega
     ·rw [e] at hp
      obtain ⟨_, _, _, k, _⟩ := (stepL_mem N.ok).1 hp
      exact (N.ok.fol _ _ k).2
    obtain ⟨w, q, hc, hq⟩ : ∃ w q, Chain (fun p q => ((newM x).fs.getD p 0#32).getLsbD q = true) (fun p => labAt (newM x) p) p w q ∧ Lst x 0 q := by
     have up : ∀ p, 0 < p → p ≤ (newM x).labs.length → ∃ w q, Chain (fun p q => ((newM x).fs.getD p 0#32).getLsbD q = true) (fun p => labAt (newM x) p) p w q ∧ Lst x 0 q := fun p h1 h2 => by
      obtain ⟨w, q, k1, k2⟩ := coacc (g := fun p => labAt (newM x) p) F 0 p h1 (by rw [← N.labs]; omega)
      have := Chain.stay (S := fun p => p ≠ 0) (F := fun p q => ((newM x).fs.getD p 0#32).getLsbD q = true) (fun p q hp hf => ⟨(N.fol p q hp).2 hf, by have := (Fol_range x hf).2; omega⟩) (by omega) k1
      exact ⟨w, q, this.1, k2⟩
     by_cases e : p = 0
     ·subst e
      obtain ⟨f, hf⟩ := fst_some F 0
      have hfr := Fst_range x hf
      obtain ⟨w, q, k1, k2⟩ := up f (by omega) (by rw [N.labs]; omega)
      exact ⟨_ :: w, q, ⟨f, (N.fst f).2 hf, rfl, k1⟩, k2⟩
     ·exact up p (by omega) hpb
    refine ⟨w, ?_⟩
    rw [hA s w (by rw [hlen]; exact hs)]
    exact sets_from hl hw ha hx w (List.getElem?_eq_getElem hi') hne (fold_ne N.ok w hp hpb hc) (bitsM_mem.2 ((N.lst q).2 hq))
 ·cases h
end Go.Proofs.YtfflpdekojlnmaaDoor
