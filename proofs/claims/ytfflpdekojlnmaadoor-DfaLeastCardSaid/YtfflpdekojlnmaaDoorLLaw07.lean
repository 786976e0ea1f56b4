/- states of unlike parts are told apart by some word. -/
import Derived.Test.YtfflpdekojlnmaaDoorLDfaT
import Derived.Test.YtfflpdekojlnmaaDoorLExprC
set_option linter.unusedSimpArgs false
set_option linter.unusedVariables false
namespace Go.Proofs.YtfflpdekojlnmaaDoor
open Go.RowKit

theorem key_of {part : List Nat} : ∀ {r s : LRow}, r.map Prod.fst = s.map Prod.fst → ptg part r = ptg part s → r.flatMap (fun e => 32 :: (e.1.data.toList ++ 32 :: Lib.decDigits (part.getD e.2 0))) = s.flatMap (fun e => 32 :: (e.1.data.toList ++ 32 :: Lib.decDigits (part.getD e.2 0)))
 | [], [], _, _ => rfl
 | [], b :: s, h, _ => by simp at h
 | a :: r, [], h, _ => by simp at h
 | a :: r, b :: s, h, k => by
  simp only [List.map_cons, List.cons.injEq, ptg] at h k
  rw [List.flatMap_cons, List.flatMap_cons, key_of (r := r) (s := s) h.2 k.2, h.1, k.1]
theorem pKeyB_of {part : List Nat} {p : Nat} {r s : LRow} (h : r.map Prod.fst = s.map Prod.fst) (k : ptg part r = ptg part s) : pKeyB part p r = pKeyB part p s := by
 rw [pKeyB, pKeyB, pKey, pKey, key_of h k]
def PSep (rows : List LRow) (ends : List Bool) (part : List Nat) : Prop := ∀ s t, s < rows.length → t < rows.length → part.getD s 0 ≠ part.getD t 0 → ∃ w, gTakes rows ends s w ≠ gTakes rows ends t w
theorem psep0 {rows : List LRow} {ends : List Bool} (hl : ends.length = rows.length) : PSep rows ends (p0 ends) := fun s t hs ht hne => by
 refine ⟨[], fun e => hne ?_⟩
 have g : ∀ i, i < rows.length → (p0 ends).getD i 0 = if ends.getD i false then 1 else 0 := fun i hi => by
  rw [p0, List.getD_eq_getElem?_getD, List.getElem?_map, List.getElem?_eq_getElem (by omega), List.getD_eq_getElem?_getD, List.getElem?_eq_getElem (by omega)]; rfl
 have e' : ends.getD s false = ends.getD t false := e
 rw [g s hs, g t ht, e']
theorem psep_next {rows : List LRow} {ends : List Bool} {part : List Nat} (hT : ∀ r ∈ rows, ∀ p ∈ r, p.2 < rows.length) (hR : ∀ r ∈ rows, Rise (r.map Prod.fst)) (hA : ∀ s, s < rows.length → ∃ w, gTakes rows ends s w = true) (h : PSep rows ends part) : PSep rows ends (pNext rows part) := fun s t hs ht hne => by
 by_cases hp : part.getD s 0 = part.getD t 0
 ·have hkey : pKeyB part (part.getD s 0) (rows.getD s []) ≠ pKeyB part (part.getD t 0) (rows.getD t []) := fun e => hne ((pNext_key rows hs ht).2 e)
  have hrs := hR _ (getD_mem (d := []) hs)
  have hrt := hR _ (getD_mem (d := []) ht)
  have ts := hT _ (getD_mem (d := []) hs)
  have tt := hT _ (getD_mem (d := []) ht)
  -- one has a label that the other lacks
  have lack : ∀ a b, a < rows.length → (∀ p ∈ rows.getD a [], p.2 < rows.length) → Rise ((rows.getD a []).map Prod.fst) → ∀ l, l ∈ (rows.getD a []).map Prod.fst → l ∉ (rows.getD b []).map Prod.fst → ∃ w, gTakes rows ends a w = true ∧ gTakes rows ends b w = false := fun a b ha hta hra l hl hn => by
   obtain ⟨p, hp, rfl⟩ := List.mem_map.1 hl
   obtain ⟨w, hw⟩ := hA p.2 (hta p hp)
   refine ⟨p.1 :: w, ?_, ?_⟩
   ·rw [gTakes_cons, look_at (rise_nd hra) (show (p.1, p.2) ∈ _ from hp)]; exact hw
   ·rw [gTakes_cons, look_none.2 hn]
  by_cases hm : ∀ l, l ∈ (rows.getD s []).map Prod.fst ↔ l ∈ (rows.getD t []).map Prod.fst
  ·have he := rise_only hrs hrt hm
   have hpt : ptg part (rows.getD s []) ≠ ptg part (rows.getD t []) := fun e => hkey (by rw [hp]; exact pKeyB_of he e)
   have hlen : (rows.getD s []).length = (rows.getD t []).length := by simpa using congrArg List.length he
   obtain ⟨j, hj, hj2, hd⟩ : ∃ j, ∃ (h1 : j < (rows.getD s []).length) (h2 : j < (rows.getD t []).length), part.getD (rows.getD s [])[j].2 0 ≠ part.getD (rows.getD t [])[j].2 0 := by
    refine Classical.byContradiction fun hno => hpt (List.ext_getElem (by rw [ptg, ptg, List.length_map, List.length_map]; exact hlen) fun i h1 h2 => ?_)
    have i1 : i < (rows.getD s []).length := by rw [ptg, List.length_map] at h1; exact h1
    have i2 : i < (rows.getD t []).length := by omega
    simp only [ptg, List.getElem_map]
    exact Classical.byContradiction fun hh => hno ⟨i, i1, i2, hh⟩
   obtain ⟨w, hw⟩ := h _ _ (ts _ (List.getElem_mem hj)) (tt _ (List.getElem_mem hj2)) hd
   have hll : (rows.getD s [])[j].1 = (rows.getD t [])[j].1 := by
    have := List.getElem_of_eq he (i := j) (by simpa using hj)
    simpa using this
   refine ⟨(rows.getD s [])[j].1 :: w, ?_⟩
   rw [gTakes_cons, gTakes_cons, look_at (rise_nd hrs) (show ((rows.getD s [])[j].1, (rows.getD s [])[j].2) ∈ _ from List.getElem_mem hj), hll, look_at (rise_nd hrt) (show ((rows.getD t [])[j].1, (rows.getD t [])[j].2) ∈ _ from List.getElem_mem hj2)]
   exact hw
  ·simp only [Classical.not_forall] at hm
   obtain ⟨l, hl⟩ := hm
   by_cases h1 : l ∈ (rows.getD s []).map Prod.fst
   ·have h2 : l ∉ (rows.getD t []).map Prod.fst := fun q => hl ⟨fun _ => q, fun _ => h1⟩
    obtain ⟨w, q1, q2⟩ := lack s t hs ts hrs l h1 h2
    exact ⟨w, by rw [q1, q2]; decide⟩
   ·have h2 : l ∈ (rows.getD t []).map Prod.fst := Classical.byContradiction fun q => hl ⟨fun k => absurd k h1, fun k => absurd k q⟩
    obtain ⟨w, q1, q2⟩ := lack t s ht tt hrt l h2 h1
    exact ⟨w, by rw [q1, q2]; decide⟩
 ·exact h s t hs ht hp
theorem psep_run {rows : List LRow} {ends : List Bool} (hT : ∀ r ∈ rows, ∀ p ∈ r, p.2 < rows.length) (hR : ∀ r ∈ rows, Rise (r.map Prod.fst)) (hA : ∀ s, s < rows.length → ∃ w, gTakes rows ends s w = true) : ∀ (f : Nat) {part : List Nat} {many : Nat}, PSep rows ends part → PSep rows ends (pRun rows f part many)
 | 0, part, many, h => h
 | f + 1, part, many, h => by
  rw [pRun]
  split
  ·exact psep_next hT hR hA h
  ·exact psep_run hT hR hA f (psep_next hT hR hA h)
theorem parts_sep {rows : List LRow} {ends : List Bool} (hl : ends.length = rows.length) (hT : ∀ r ∈ rows, ∀ p ∈ r, p.2 < rows.length) (hR : ∀ r ∈ rows, Rise (r.map Prod.fst)) (hA : ∀ s, s < rows.length → ∃ w, gTakes rows ends s w = true) : PSep rows ends (partsM rows ends) := psep_run hT hR hA _ (psep0 hl)
theorem sets_alive {x : Ex} (hr : exRight x = true) {labs : List ByteArray} (hn : labs.Nodup) (hm : ∀ l ∈ labE x, l ∈ labs) {st : SSt} (hst : setsX x labs = some st) {i : Nat} (hi : i < st.rows.length) : ∃ w, gTakes st.rows st.ends i w = true := by
 have N := newM_law hr
 have F := (right_fit hr).1
 obtain ⟨ho, hl, hw⟩ := sets_ok (stepL (newM x)) (newM x).em (bitsM (newM x).la) hn hst
 have hi' : i < st.all.length := by omega
 have ha : ∀ l, stepL (newM x) [] l = [] := fun l => List.eq_nil_iff_forall_not_mem.2 fun q hq => by
  obtain ⟨p, hp, _⟩ := (stepL_mem N.ok).1 hq; simp at hp
 have hlab : ∀ q, 1 ≤ q → q ≤ (newM x).labs.length → labAt (newM x) q ∈ labs := fun q h1 h2 => by
  rw [labAt, if_pos (by omega)]
  refine hm _ ?_
  rw [← N.labs]
  exact getD_mem (by omega)
 have hx : ∀ cur l, l ∉ labs → stepL (newM x) cur l = [] := fun cur l hl => List.eq_nil_iff_forall_not_mem.2 fun q hq => by
  obtain ⟨p, _, _, k, rfl⟩ := (stepL_mem N.ok).1 hq
  obtain ⟨q1, q2⟩ := N.ok.fol _ _ k
  exact hl (hlab q q1 q2)
 obtain ⟨hne, hmade⟩ := sets_made (stepL (newM x)) (newM x).em (bitsM (newM x).la) hst _ (List.getElem_mem hi')
 obtain ⟨p, hp⟩ := List.exists_mem_of_ne_nil _ hne
 have hpb : p ≤ (newM x).labs.length := by
  rcases hmade with e | ⟨cur, l, e⟩
  ·rw [e] at hp; simp at hp; omega
  ·rw [e] at hp
   obtain ⟨_, _, _, k, _⟩ := (stepL_mem N.ok).1 hp
   exact (N.ok.fol _ _ k).2
 obtain ⟨w, q, hc, hq⟩ : ∃ w q, Chain (fun p q => ((newM x).fs.getD p 0#32).getLsbD q = true) (fun p => labAt (newM x) p) p w q ∧ Lst x 0 q := by
  have up : ∀ p, 0 < p → p ≤ (newM x).labs.length → ∃ w q, Chain (fun p q => ((newM x).fs.getD p 0#32).getLsbD q = true) (fun p => labAt (newM x) p) p w q ∧ Lst x 0 q := fun p h1 h2 => by
   obtain ⟨w, q, k1, k2⟩ := coacc (g := fun p => labAt (newM x) p) F 0 p h1 (by rw [← N.labs]; omega)
   have := Chain.stay (S := fun p => p ≠ 0) (F := fun p q => ((newM x).fs.getD p 0#32).getLsbD q = true) (fun p q hp hf => ⟨(N.fol p q hp).2 hf, by have := (Fol_range x hf).2; omega⟩) (by omega) k1
   exact ⟨w, q, this.1, k2⟩
  by_cases e : p = 0
  ·subst e
   obtain ⟨f, hf⟩ := fst_some F 0
   have hfr := Fst_range x hf
   obtain ⟨w, q, k1, k2⟩ := up f (by omega) (by rw [N.labs]; omega)
   exact ⟨_ :: w, q, ⟨f, (N.fst f).2 hf, rfl, k1⟩, k2⟩
  ·exact up p (by omega) hpb
 refine ⟨w, ?_⟩
 exact sets_from hl hw ha hx w (List.getElem?_eq_getElem hi') hne (fold_ne N.ok w hp hpb hc) (bitsM_mem.2 ((N.lst q).2 hq))
theorem least_sep {x : Ex} {A : ADt} (h : autoM x (labX x) = .inl A) {i k : Nat} (hi : i < A.rows.length) (hk : k < A.rows.length) (hik : i ≠ k) : ∃ w, gTakes A.rows A.ends i w ≠ gTakes A.rows A.ends k w := by
 have hr : exRight x = true := by
  cases hr : exRight x
  ·rw [autoM, hr] at h; simp at h
  ·rfl
 rw [autoM, if_pos hr] at h
 split at h
 ·rename_i st hst
  split at h
  ·cases h
  ·simp only [Sum.inl.injEq] at h
   obtain ⟨ho, hl, hw⟩ := sets_ok (stepL (newM x)) (newM x).em (bitsM (newM x).la) (labX_nd x) hst
   obtain ⟨g1, g2, g3⟩ := sets_g hr hst
   have hT := sets_rows ho hl
   have hN := sets_nd (labX_nd x) ho
   obtain ⟨hS, hpl⟩ := partsM_stb st.rows st.ends (sets_nosp (labX_sp hr) ho) hT g2 ho.ends
   obtain ⟨qo, ql, qw⟩ := least_ok (ends := st.ends) hT hN g2 (partsM st.rows st.ends)
   have hlen : A.rows.length = (leastM st.rows st.ends (partsM st.rows st.ends)).order.length := by rw [← h]; exact ql
   have hA : ∀ k w, k < A.rows.length → gTakes A.rows A.ends k w = gTakes st.rows st.ends ((leastM st.rows st.ends (partsM st.rows st.ends)).order.getD k 0) w := fun k w hk => by
    rw [← h]; exact least_takes hT hS qo ql qw w (by rw [← hlen]; exact hk)
   have hsep := parts_sep ho.ends hT g1.rise (fun s hs => sets_alive hr (labX_nd x) (fun l hl => labX_mem.2 hl) hst hs)
   have hi2 := hlen ▸ hi
   have hk2 := hlen ▸ hk
   have hpne : (partsM st.rows st.ends).getD ((leastM st.rows st.ends (partsM st.rows st.ends)).order.getD i 0) 0 ≠ (partsM st.rows st.ends).getD ((leastM st.rows st.ends (partsM st.rows st.ends)).order.getD k 0) 0 := fun e => by
    have nd := qo.nd
    rw [List.Nodup, List.pairwise_iff_getElem] at nd
    rw [List.getD_eq_getElem?_getD (l := (leastM st.rows st.ends (partsM st.rows st.ends)).order), List.getElem?_eq_getElem hi2, List.getD_eq_getElem?_getD (l := (leastM st.rows st.ends (partsM st.rows st.ends)).order), List.getElem?_eq_getElem hk2] at e
    simp only [Option.getD_some] at e
    rcases Nat.lt_or_gt_of_ne hik with q | q
    ·have := nd i k (by simpa using hi2) (by simpa using hk2) q
     simp only [List.getElem_map] at this
     exact this e
    ·have := nd k i (by simpa using hk2) (by simpa using hi2) q
     simp only [List.getElem_map] at this
     exact this e.symm
   obtain ⟨w, hw2⟩ := hsep _ _ (qo.lt _ (getD_mem (d := 0) hi2)) (qo.lt _ (getD_mem (d := 0) hk2)) hpne
   exact ⟨w, by rw [hA i w hi, hA k w hk]; exact hw2⟩
 ·cases h
end Go.Proofs.YtfflpdekojlnmaaDoor

namespace Go.Proofs.YtfflpdekojlnmaaDoor
open Go.RowKit

mutual
def sX : Ex → Nat → Nat
 | .mk _ _ l, deep => if 60 < deep then 301 else sL l (deep + 1) 1
def sL : List Ex → Nat → Nat → Nat
 | [], _, n => n
 | x :: xs, d, n => if n ≤ 300 then sL xs d (n + sX x d) else n
end
theorem sL_take : ∀ (l : List Ex) (d n k : Nat) (h : k < l.length), sL (l.take k) d n ≤ 300 → sL (l.take (k + 1)) d n = sL (l.take k) d n + sX l[k] d
 | [], _, _, _, h, _ => by simp at h
 | x :: xs, d, n, 0, _, hn => by
  simp only [List.take_zero, sL] at hn ⊢
  simp [sL, hn]
 | x :: xs, d, n, k + 1, h, hn => by
  simp only [List.take_succ_cons, sL, List.getElem_cons_succ] at hn ⊢
  by_cases hc : n ≤ 300
  ·rw [if_pos hc] at hn ⊢
   rw [if_pos hc]
   exact sL_take xs d _ k (by simpa using h) hn
  ·rw [if_neg hc] at hn; omega
theorem sL_stop : ∀ (l : List Ex) (d n k : Nat), 300 < sL (l.take k) d n → sL l d n = sL (l.take k) d n
 | [], _, _, _, _ => by simp
 | x :: xs, d, n, 0, hn => by
  simp only [List.take_zero, sL] at hn ⊢
  rw [if_neg (by omega)]
 | x :: xs, d, n, k + 1, hn => by
  simp only [List.take_succ_cons, sL] at hn ⊢
  by_cases hc : n ≤ 300
  ·rw [if_pos hc] at hn ⊢
   rw [if_pos hc]
   exact sL_stop xs d _ k hn
  ·rw [if_neg hc, if_neg hc]
mutual
theorem sX_rng : ∀ (x : Ex) (d : Nat), d ≤ 61 → 1 ≤ sX x d ∧ sX x d ≤ 301 + 300 * (61 - d)
 | .mk _ _ l, d, h => by
  rw [sX]
  split
  ·omega
  ·have := sL_rng l (d + 1) 1 (by omega); omega
theorem sL_rng : ∀ (l : List Ex) (d n : Nat), d ≤ 61 → n ≤ sL l d n ∧ sL l d n ≤ max n (601 + 300 * (61 - d))
 | [], d, n, h => by rw [sL]; omega
 | x :: xs, d, n, h => by
  rw [sL]
  split
  ·have h1 := sX_rng x d h
   have h2 := sL_rng xs d (n + sX x d) h
   omega
  ·omega
end

def grN (a b : Ex) : Nat := if sX a 0 ≤ 300 then sX a 0 + sX b 0 else sX a 0
def greatB (w : List ByteArray) (a b : Ex) : Bool := decide (300 < grN a b) || decide (30 < w.length)

/-! ### what words two expressions take, in plain Lean -/
noncomputable def partAt (p q : List ByteArray → Bool) (w : List ByteArray) (n : Nat) : Bool := (List.range n).any (fun k => p (w.take k) && q (w.drop k))
section
variable {a b : Ex} (ha : exRight a = true) (hb : exRight b = true) (na : (exParts a).length ≤ 11) (nb : (exParts b).length ≤ 11)
include ha hb na nb
omit hb nb
end
end Go.Proofs.YtfflpdekojlnmaaDoor
