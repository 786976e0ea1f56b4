/- The abstract walk: regions that draw their order and turn memory: an operation that may come late, behind those ahead of a place. -/
import Derived.Test.YtmdkgajjekbanaaDoorEAbsV
set_option linter.unusedSimpArgs false
set_option linter.unusedVariables false
namespace Go.Proofs.YtmdkgajjekbanaaDoor
open Go.RowKit

section
variable {D : Nat → Prop} {nu : Nat → Nat → Value} {o : List (Option AObj)} {w : World} {P : Program}
variable {nu0 : Nat → Nat → Value} {o0 : List (Option AObj)} {w0 : World} {l : List Oper} {es : List Nat} {O : Nat → List (Option AObj)}

def latH : List (Nat × Nat) → Nat → Option Nat
 | [], _ => none
 | (j, lo) :: fs, k => if j = k ∧ 1000 ≤ lo then some (lo - 1000) else latH fs k
def pnH : Option (Nat → List (Option AObj) → Prop) → Nat → List (Option AObj) → Prop
 | none, _, _ => True
 | some p, k, o => p k o
def fltH (es : List Nat) (k : Nat) : List Nat := es.filter (fun e => decide (k ≤ e))
theorem fltH_no {es : List Nat} {k : Nat} (h : es.contains k = false) : fltH es k = fltH es (k + 1) := by
 refine List.filter_congr fun e he => ?_
 have hne : e ≠ k := fun hh => by subst hh; simp [he] at h
 rw [decide_eq_decide]; omega
theorem fltH_all {es : List Nat} {k : Nat} (h : ∀ e, e ∈ es → k ≤ e) : fltH es k = es := List.filter_eq_self.2 fun e he => decide_eq_true (h e he)
theorem fltH_yes : ∀ {es : List Nat} {k : Nat}, riseB es = true → es.contains k = true → fltH es k = k :: fltH es (k + 1)
 | [], k, _, h => by simp at h
 | a :: t, k, hr, h => by
  have ht : riseB t = true := by
   cases t with
   | nil => rfl
   | cons b t => simp only [riseB, Bool.and_eq_true] at hr; exact hr.2
  have hgt : ∀ e, e ∈ t → a < e := fun e he => by
   obtain ⟨i, hi⟩ := List.getElem?_of_mem he
   exact riseB_lt hr 0 (i + 1) a e (by omega) rfl (by simpa using hi)
  by_cases ha : a = k
  ·subst ha
   have h1 : fltH t a = t := fltH_all fun e he => Nat.le_of_lt (hgt e he)
   have h2 : fltH t (a + 1) = t := fltH_all fun e he => hgt e he
   rw [fltH, List.filter_cons, ← fltH, h1, fltH, List.filter_cons, ← fltH, h2, if_pos (by simp), if_neg (by simp)]
  ·have hk : t.contains k = true := by
    simp only [List.contains_cons, Bool.or_eq_true, beq_iff_eq] at h
    rcases h with h | h
    ·exact absurd h.symm ha
    ·exact h
   have hlt := hgt k (by simpa using hk)
   have IH := fltH_yes ht hk
   rw [fltH, List.filter_cons, ← fltH, IH, if_neg (by simp; omega), fltH, fltH, List.filter_cons, if_neg (by simp; omega)]
theorem fltH_drop {es : List Nat} {k m : Nat} (hm : ∀ m' e, es[m']? = some e → (e < k ↔ m' < m)) : fltH es k = es.drop m := by
 have h1 : fltH es k = fltH (es.take m ++ es.drop m) k := by rw [List.take_append_drop]
 rw [h1, fltH, List.filter_append]
 have h2 : (es.take m).filter (fun e => decide (k ≤ e)) = [] := List.filter_eq_nil_iff.2 fun e he => by
  obtain ⟨i, hi⟩ := List.getElem?_of_mem he
  have hlt := (List.getElem?_eq_some_iff.1 hi).1
  rw [List.getElem?_take_of_lt (by simp at hlt; omega)] at hi
  have := (hm i e hi).2 (by simp at hlt; omega)
  simp; omega
 have h3 : (es.drop m).filter (fun e => decide (k ≤ e)) = es.drop m := List.filter_eq_self.2 fun e he => by
  obtain ⟨i, hi⟩ := List.getElem?_of_mem he
  rw [List.getElem?_drop] at hi
  have : ¬ e < k := fun hh => by have := (hm _ e hi).1 hh; omega
  simp; omega
 rw [h2, h3, List.nil_append]
def ADrawH (P : Program) (all : List Oper) (es : List Nat) (fs : List (Nat × Nat)) : List Oper → Nat → AS → List (List (Option AObj)) → Option (Nat → List (Option AObj) → Prop) → (AS → Prop) → Prop
 | [], _, s, _, _, Q => Q s
 | oo :: rest, k, s, hist, pn, Q => if es.contains k then (match oo.guard with
   | none => ADoE P oo.op s (fun r o' => pnH pn k o' ∧ ADrawH P all es fs rest (k + 1) (s.put oo.dst r o') (hist ++ [s.o]) pn Q)
   | some _ => False) else match floF fs k with
   | some lo => oo.guard = none ∧ ADoS P oo.op s (fun r => (∀ o', o' ∈ hist.drop lo → ADoS P oo.op ⟨s.t, o', s.y⟩ (fun r' => r' = r)) ∧ ADrawH P all es fs rest (k + 1) (s.put oo.dst r s.o) hist pn Q)
   | none => match latH fs k with
    | some c => oo.guard = none ∧ ADoS P oo.op s (fun r => ADrawH P all es fs rest (k + 1) (s.put oo.dst r s.o) hist (some fun k' o' => pnH pn k' o' ∧ (if k' < c then ADoS P oo.op ⟨s.t, o', s.y⟩ (fun r' => r' = r) else True)) Q)
    | none => AStepS P all oo s (fun s' => ADrawH P all es fs rest (k + 1) s' hist pn Q)
def TrH (P : Program) (all : List Oper) (es : List Nat) (fs : List (Nat × Nat)) : List Oper → Nat → AS → List (List (Option AObj)) → List AV → List (List (Option AObj)) → AS → Prop
 | [], _, s, _, rs, os, sf => rs = [] ∧ os = [] ∧ sf = s
 | oo :: rest, k, s, hist, rs, os, sf => ∃ r rs', rs = r :: rs' ∧
   ((es.contains k = true ∧ oo.guard = none ∧ ∃ o' os', os = o' :: os' ∧ ADoE P oo.op s (fun r' o'' => r' = r ∧ o'' = o') ∧ TrH P all es fs rest (k + 1) (s.put oo.dst r o') (hist ++ [s.o]) rs' os' sf) ∨
   (es.contains k = false ∧ (((oo.guard = none ∨ ∃ j want b, oo.guard = some (j, want) ∧ gval all s j = some (some b) ∧ (b == want) = true) ∧ ADoS P oo.op s (fun r' => r' = r) ∧ (∀ lo, floF fs k = some lo → ∀ o', o' ∈ hist.drop lo → ADoS P oo.op ⟨s.t, o', s.y⟩ (fun r' => r' = r)) ∧ (floF fs k = none → ∀ c, latH fs k = some c → ∀ (i e : Nat) o', (fltH es (k + 1))[i]? = some e → e < c → os[i]? = some o' → ADoS P oo.op ⟨s.t, o', s.y⟩ (fun r' => r' = r))) ∨
    (floF fs k = none ∧ latH fs k = none ∧ r = .v Go.undef ∧ ∃ j want g, oo.guard = some (j, want) ∧ gval all s j = some g ∧ (g = none ∨ ∃ b, g = some b ∧ (b == want) = false))) ∧ TrH P all es fs rest (k + 1) (s.put oo.dst r s.o) hist rs' os sf))
theorem adrawH_tr {all : List Oper} {es : List Nat} {fs : List (Nat × Nat)} (hrise : riseB es = true) : ∀ (rest : List Oper) (k : Nat) (s : AS) (hist : List (List (Option AObj))) {pn : Option (Nat → List (Option AObj) → Prop)} {Q : AS → Prop}, ADrawH P all es fs rest k s hist pn Q → ∃ rs os sf, TrH P all es fs rest k s hist rs os sf ∧ (∀ (i e : Nat) o', (fltH es k)[i]? = some e → os[i]? = some o' → pnH pn e o') ∧ Q sf
 | [], k, s, hist, pn, Q, h => ⟨[], [], s, ⟨rfl, rfl, rfl⟩, (fun _ _ _ _ h => by simp at h), h⟩
 | oo :: rest, k, s, hist, pn, Q, h => by
  simp only [ADrawH] at h
  cases he : es.contains k
  ·rw [he] at h
   simp only [Bool.false_eq_true, if_false] at h
   cases hf : floF fs k with
   | some lo =>
    rw [hf] at h
    obtain ⟨hg, h⟩ := h
    obtain ⟨r, ⟨hh, hk⟩, hr⟩ := ados_ex h
    obtain ⟨rs, os, sf, h1, h2⟩ := adrawH_tr hrise rest (k + 1) _ hist hk
    exact ⟨r :: rs, os, sf, ⟨r, rs, rfl, .inr ⟨he, .inl ⟨.inl hg, hr, (fun lo' hl => by rw [hf] at hl; cases hl; exact hh), fun hn => by rw [hf] at hn; cases hn⟩, h1⟩⟩, by rw [fltH_no he]; exact h2⟩
   | none =>
   rw [hf] at h
   have hno : ∀ r lo, floF fs k = some lo → ∀ o', o' ∈ hist.drop lo → ADoS P oo.op ⟨s.t, o', s.y⟩ (fun r' => r' = r) := fun r lo hl => by rw [hf] at hl; cases hl
   simp only at h
   cases hlt : latH fs k
   case some cc =>
    rw [hlt] at h
    simp only at h
    obtain ⟨hg, h⟩ := h
    obtain ⟨r, hk, hr⟩ := ados_ex h
    obtain ⟨rs, os, sf, h1, h0, h2⟩ := adrawH_tr hrise rest (k + 1) _ hist hk
    exact ⟨r :: rs, os, sf, ⟨r, rs, rfl, .inr ⟨he, .inl ⟨.inl hg, hr, hno r, fun _ c hc i e o' he' hlt' ho' => by rw [hlt] at hc; cases hc; have := (h0 i e o' he' ho').2; rw [if_pos hlt'] at this; exact this⟩, h1⟩⟩, fun i e o' he' ho' => (h0 i e o' (by rw [fltH_no he] at he'; exact he') ho').1, h2⟩
   have hla : ∀ (r : AV) (os : List (List (Option AObj))), floF fs k = none → ∀ c, latH fs k = some c → ∀ (i e : Nat) o', (fltH es (k + 1))[i]? = some e → e < c → os[i]? = some o' → ADoS P oo.op ⟨s.t, o', s.y⟩ (fun r' => r' = r) := fun r os _ c h => by rw [hlt] at h; cases h
   rw [hlt] at h
   simp only at h
   simp only [AStepS] at h
   split at h
   ·rename_i hg
    obtain ⟨r, hk, hr⟩ := ados_ex h
    obtain ⟨rs, os, sf, h1, h2⟩ := adrawH_tr hrise rest (k + 1) _ hist hk
    exact ⟨r :: rs, os, sf, ⟨r, rs, rfl, .inr ⟨he, .inl ⟨.inl hg, hr, hno r, hla r _⟩, h1⟩⟩, by rw [fltH_no he]; exact h2⟩
   ·rename_i j want hg
    unfold AGd at h
    split at h
    ·rename_i b e
     cases hb : b == want
     ·rw [hb, AIf_false] at h
      obtain ⟨rs, os, sf, h1, h2⟩ := adrawH_tr hrise rest (k + 1) _ hist h
      exact ⟨_ :: rs, os, sf, ⟨_, rs, rfl, .inr ⟨he, .inr ⟨hf, hlt, rfl, j, want, _, hg, e, .inr ⟨b, rfl, hb⟩⟩, h1⟩⟩, by rw [fltH_no he]; exact h2⟩
     ·rw [hb, AIf_true] at h
      obtain ⟨r, hk, hr⟩ := ados_ex h
      obtain ⟨rs, os, sf, h1, h2⟩ := adrawH_tr hrise rest (k + 1) _ hist hk
      exact ⟨r :: rs, os, sf, ⟨r, rs, rfl, .inr ⟨he, .inl ⟨.inr ⟨j, want, b, hg, e, hb⟩, hr, hno r, hla r _⟩, h1⟩⟩, by rw [fltH_no he]; exact h2⟩
    ·rename_i e
     obtain ⟨rs, os, sf, h1, h2⟩ := adrawH_tr hrise rest (k + 1) _ hist h
     exact ⟨_ :: rs, os, sf, ⟨_, rs, rfl, .inr ⟨he, .inr ⟨hf, hlt, rfl, j, want, _, hg, e, .inl rfl⟩, h1⟩⟩, by rw [fltH_no he]; exact h2⟩
    ·exact h.elim
  ·rw [he] at h
   simp only [if_true] at h
   split at h
   ·rename_i hg
    obtain ⟨r, o', ⟨hpo, hk⟩, hr⟩ := adoE_ex h
    obtain ⟨rs, os, sf, h1, h0, h2⟩ := adrawH_tr hrise rest (k + 1) _ _ hk
    exact ⟨r :: rs, o' :: os, sf, ⟨r, rs, rfl, .inl ⟨he, hg, o', os, rfl, hr, h1⟩⟩, fun i e o'' hi ho => by
     rw [fltH_yes hrise he] at hi
     cases i with
     | zero => simp only [List.getElem?_cons_zero, Option.some.injEq] at hi ho; subst hi; subst ho; exact hpo
     | succ i => rw [List.getElem?_cons_succ] at hi ho; exact h0 i e o'' hi ho, h2⟩
   ·exact h.elim

def laBH (ops : Array Oper) (es : List Nat) (fs : List (Nat × Nat)) (j : Nat) : Bool := match latH fs j with
 | some c => !es.contains j && (floF fs j).isNone && es.all (fun e => decide (j ≤ e) || inCl ops ops.size j e) && es.all (fun e => decide (e < c) || inCl ops ops.size e j)
 | none => false
def ghostH (ops : Array Oper) (es : List Nat) (fs : List (Nat × Nat)) : Bool := relGB ops && riseB es && es.all (fun e => decide (e < ops.size)) && (List.range ops.size).all (fun j => (match ops[j]? with | some oo => ofreeB oo.op | none => true) && !es.contains j || fixB ops es j || floB ops es fs j || laBH ops es fs j)
theorem laBH_ex {ops : Array Oper} {es : List Nat} {fs : List (Nat × Nat)} {j : Nat} (h : laBH ops es fs j = true) : ∃ c, latH fs j = some c ∧ floF fs j = none ∧ es.contains j = false ∧ (∀ e, e ∈ es → j ≤ e ∨ inCl ops ops.size j e = true) ∧ (∀ e, e ∈ es → c ≤ e → inCl ops ops.size e j = true) := by
 unfold laBH at h
 split at h
 ·rename_i c hc
  simp only [Bool.and_eq_true, Bool.not_eq_true', List.all_eq_true, Bool.or_eq_true, decide_eq_true_eq] at h
  refine ⟨c, hc, by have := h.1.1.2; simpa using this, h.1.1.1, h.1.2, fun e he hle => ?_⟩
  rcases h.2 e he with q | q
  ·omega
  ·exact q
 ·cases h
theorem GG.at_lateH (g : GG D nu0 o0 w0 l es O) {k m : Nat} (hf : ∀ e, e ∈ es → k ≤ e ∨ inCl l.toArray l.toArray.size k e = true) (hd : ∀ i, depB l.toArray k i = true → g.done i = true) (hm : ∀ m' e, es[m']? = some e → (e < k ↔ m' < m)) (hml : m ≤ es.length) : m ≤ g.c := by
 rcases Nat.eq_zero_or_pos m with q | q
 ·omega
 ·have hlt : m - 1 < es.length := by omega
  have he : es[m - 1]? = some es[m - 1] := List.getElem?_eq_getElem hlt
  have hlk := (hm _ _ he).2 (by omega)
  rcases hf _ (List.getElem_mem hlt) with h | h
  ·omega
  ·have := (g.ef _ _ he).1 (inCl_deps g h hd)
   omega
theorem trH_len {l : List Oper} {es : List Nat} {fs : List (Nat × Nat)} (hsz : ∀ e, e ∈ es → e < l.length) (hrise : riseB es = true) : ∀ (rest : List Oper) (k m : Nat) (s : AS) (hist : List (List (Option AObj))) (rs : List AV) (os : List (List (Option AObj))) (sf : AS), l.drop k = rest → k ≤ l.length → TrH P l es fs rest k s hist rs os sf → m ≤ es.length →
  (∀ m' e, es[m']? = some e → (e < k ↔ m' < m)) → os.length + m = es.length
 | [], k, m, s, hist, rs, os, sf, hl, hk, ht, hm, hme => by
  obtain ⟨rfl, rfl, rfl⟩ := ht
  have hkl : k = l.length := by have := congrArg List.length hl; simp at this; omega
  rcases Nat.lt_or_ge m es.length with q | q
  ·have he : es[m]? = some es[m] := List.getElem?_eq_getElem q
   have := (hme m _ he).1 (by rw [hkl]; exact hsz _ (List.getElem_mem q))
   omega
  ·simp; omega
 | oo :: rest, k, m, s, hist, rs, os, sf, hl, hk, ht, hm, hme => by
  have hlt : k < l.length := by have := congrArg List.length hl; simp at this; omega
  have hl' : l.drop (k + 1) = rest := by have := congrArg List.tail hl; simpa using this
  obtain ⟨r, rs', rfl, ht⟩ := ht
  rcases ht with ⟨he, hg, o', os', rfl, hd, htr⟩ | ⟨he, hstep, htr⟩
  ·have hkm : k ∈ es := by simpa using he
   obtain ⟨mk, hmk⟩ := List.getElem?_of_mem hkm
   have hmke : mk = m := by
    have h1 : ¬ mk < m := fun hh => by have := (hme mk k hmk).2 hh; omega
    rcases Nat.lt_or_ge m mk with q | q
    ·have hlt2 : m < es.length := by have := (List.getElem?_eq_some_iff.1 hmk).1; omega
     have hem : es[m]? = some es[m] := List.getElem?_eq_getElem hlt2
     have hlt3 := riseB_lt hrise m mk _ _ q hem hmk
     have := (hme m _ hem).1 hlt3
     omega
    ·omega
   subst hmke
   have hmlt := (List.getElem?_eq_some_iff.1 hmk).1
   have := trH_len hsz hrise rest (k + 1) (mk + 1) _ _ _ _ _ hl' hlt htr (by omega) (fun m' e h => by
    by_cases hek : e = k
    ·subst hek
     have : m' = mk := (List.getElem?_inj (List.getElem?_eq_some_iff.1 h).1 (riseB_nodup hrise)).1 (h.trans hmk.symm)
     omega
    ·have := hme m' e h
     have hne : m' ≠ mk := fun hh => by subst hh; rw [hmk] at h; cases h; exact hek rfl
     omega)
   simp only [List.length_cons]; omega
  ·exact trH_len hsz hrise rest (k + 1) m _ _ _ _ _ hl' hlt htr hm (fun m' e h => by
    have hne : e ≠ k := fun hh => by
     subst hh
     have := List.mem_of_getElem? h
     simp [this] at he
    rw [← hme m' e h]; omega)

theorem adrawH_good {f : Fr} {fs : List (Nat × Nat)} (hB : ghostH l.toArray es fs = true) {s sf : AS} {a : Act} {w0 : World} {rs : List AV} {os : List (List (Option AObj))} {R : Exit → Act → World → Prop} {g0 : GG D nu s.o w0 l es (fun c => (s.o :: os).getD c [])} (hs : RS f D nu s a w0)
  (hR : ∀ a' w' nu', Mono nu s.o w0 nu' sf.o w' → sf.y = s.y → RS f D nu' sf a' w' → R .normal a' w') :
  ∀ (rest : List Oper) (k m : Nat) (sk : AS) (hist : List (List (Option AObj))) (rs1 rs2 : List AV) (os2 : List (List (Option AObj))) (A : (Nat → Value) → Act), l.drop k = rest → TrH P l es fs rest k sk hist rs2 os2 sf → (s.o :: os).take m = hist → rs = rs1 ++ rs2 → GInv l s a k sk rs1 A → (s.o :: os).drop m = sk.o :: os2 →
   m ≤ es.length → (∀ m' e, es[m']? = some e → (e < k ↔ m' < m)) → k ≤ l.length →
   oblG (N := ghostN D nu s.o w0 l es (fun c => (s.o :: os).getD c [])) P l.toArray (rs.mapIdx (fun k r => specG D nu s.o w0 l es (fun c => (s.o :: os).getD c []) k r)) g0 (R .normal) rest k A
 | [], k, m, sk, hist, rs1, rs2, os2, A, hl, ht, hhi, hrs, hI, hO, hml, hme, hk => by
  obtain ⟨rfl, rfl, rfl⟩ := ht
  intro x g hE hD
  have hkl : k = l.length := by have := congrArg List.length hl; simp at this; omega
  have hspec : ∀ i r, rs1[i]? = some r → (specG D nu s.o w0 l es (fun c => (s.o :: os).getD c []) i r).p (x i) g := fun i r hr => by
   have hik : i < k := by rw [← hI.len]; exact (List.getElem?_eq_some_iff.1 hr).1
   have := hD i hik
   rw [hrs, List.append_nil, atN_one hr] at this
   exact this
  have hdone : ∀ i, i < k → g.done i = true := fun i hi => by
   have hlt : i < rs1.length := by rw [hI.len]; exact hi
   exact (hspec i _ (List.getElem?_eq_getElem hlt)).2
  have hsz : ∀ e, e ∈ es → e < l.length := by
   simp only [ghostH, Bool.and_eq_true, List.all_eq_true, decide_eq_true_eq, List.size_toArray] at hB
   exact hB.1.2
  have hm : m = es.length := by
   rcases Nat.lt_or_ge m es.length with q | q
   ·have he : es[m]? = some es[m] := List.getElem?_eq_getElem q
    have := (hme m _ he).1 (by rw [hkl]; exact hsz _ (List.getElem_mem q))
    omega
   ·omega
  have hc : g.c = m := by
   have h1 := g.le
   rcases Nat.eq_zero_or_pos m with q | q
   ·omega
   ·have hlt : m - 1 < es.length := by omega
    have he : es[m - 1]? = some es[m - 1] := List.getElem?_eq_getElem hlt
    have := (g.ef _ _ he).1 (hdone _ (by rw [hkl]; exact hsz _ (List.getElem_mem hlt)))
    omega
  have hOm : (s.o :: os).getD m [] = sf.o := by
   have := congrArg (fun l => l[0]?) hO
   simp only [List.getElem?_drop, Nat.add_zero, List.getElem?_cons_zero] at this
   rw [List.getD_eq_getElem?_getD, this]; rfl
  have hro := g.ro
  have hmo := g.mono
  simp only [hc, hOm] at hro hmo
  refine hR (A x) g.w g.nu hmo hI.y ⟨hro, ⟨hI.size x, fun t c v h1 h2 => ?_⟩, by rw [hI.dfr x]; exact hs.dfr.mono hs.ro hmo⟩
  rcases hI.val x t c v h1 h2 with ⟨h3, h4⟩ | ⟨i, q1, q2, q3, q4⟩
  ·exact (hs.tm.at' t c v h3 h4).mono hmo (fun _ _ h => h)
  ·have := (hspec i c q3).1
   simp only [hc, hOm] at this
   rw [q4]; exact this
 | oo :: rest, k, m, sk, hist, rs1, rs2, os2, A, hl, ht, hhi, hrs, hI, hO, hml, hme, hk => by
  have hB' := hB
  simp only [ghostH, Bool.and_eq_true, List.all_eq_true, decide_eq_true_eq, List.size_toArray, List.mem_range, Bool.or_eq_true] at hB'
  obtain ⟨⟨⟨hrel, hrise⟩, hszs⟩, hfix⟩ := hB'
  have hlt : k < l.length := by have := congrArg List.length hl; simp at this; omega
  have hok : l[k]? = some oo := by have := congrArg (fun m => m[0]?) hl; simpa using this
  have hl' : l.drop (k + 1) = rest := by have := congrArg List.tail hl; simpa using this
  have hOm : (s.o :: os).getD m [] = sk.o := by
   have := congrArg (fun l => l[0]?) hO
   simp only [List.getElem?_drop, Nat.add_zero, List.getElem?_cons_zero] at this
   rw [List.getD_eq_getElem?_getD, this]; rfl
  obtain ⟨r, rs', rfl, ht⟩ := ht
  have hrs' : rs = (rs1 ++ [r]) ++ rs' := by rw [hrs]; simp
  have hspecK : atN (rs.mapIdx (fun k r => specG D nu s.o w0 l es (fun c => (s.o :: os).getD c []) k r)) k = specG D nu s.o w0 l es (fun c => (s.o :: os).getD c []) k r := by
   rw [hrs]; exact atN_at (by rw [List.getElem?_append_right (by rw [hI.len]; exact Nat.le_refl _), hI.len, Nat.sub_self]; rfl)
  have hspec : ∀ (x : Nat → Value) (g : GG D nu s.o w0 l es (fun c => (s.o :: os).getD c [])) i rr, (atN (rs.mapIdx (fun k r => specG D nu s.o w0 l es (fun c => (s.o :: os).getD c []) k r)) i).p (x i) g → rs1[i]? = some rr → RA D g.nu ((s.o :: os).getD g.c []) g.w rr (x i) ∧ g.done i = true := fun x g i rr h hr => by
   rw [hrs, atN_at (by rw [List.getElem?_append_left (List.getElem?_eq_some_iff.1 hr).1]; exact hr)] at h
   exact h
  have hdep : ∀ i, depB l.toArray k i = true → i < k := fun i hi => by
   simp only [relGB, Bool.and_eq_true, List.all_eq_true, List.mem_range, List.size_toArray] at hrel
   rcases Nat.lt_trichotomy i k with h | h | h
   ·exact h
   ·subst h
    have := (hrel.2 i hlt).2.1
    rw [hi] at this; cases this
   ·exfalso
    simp only [depB, List.getElem?_toArray, hok, Array.any_eq_true', Bool.and_eq_true, beq_iff_eq] at hi
    obtain ⟨e, he, hb, rfl⟩ := hi
    have hfar := (hrel.2 k hlt).2.2
    simp only [farB, List.getElem?_toArray, hok, Array.all_eq_true_iff_forall_mem] at hfar
    have hel : e.on < l.length := by simpa using hfar e he
    have := (hrel.2 e.on hel).1 k h
    simp only [pairG, List.getElem?_toArray, hok, List.getElem?_eq_getElem hel, Bool.and_eq_true, Bool.not_eq_true'] at this
    have h2 := this.1.1.2
    simp only [depB, List.getElem?_toArray, hok] at h2
    have : oo.after.any (fun e_1 => Region.binds .any e_1 && e_1.on == e.on) = true := by
     simp only [Array.any_eq_true', Bool.and_eq_true, beq_iff_eq]
     exact ⟨e, he, hb, rfl⟩
    rw [this] at h2; cases h2
  have hdoneD : ∀ (x : Nat → Value) (g : GG D nu s.o w0 l es (fun c => (s.o :: os).getD c [])), (∀ i, depB l.toArray k i = true → (atN (rs.mapIdx (fun k r => specG D nu s.o w0 l es (fun c => (s.o :: os).getD c []) k r)) i).p (x i) g) → ∀ i, depB l.toArray k i = true → g.done i = true := fun x g hD i hi => by
   have hlt : i < rs1.length := by rw [hI.len]; exact hdep i hi
   exact (hspec x g i _ (hD i hi) (List.getElem?_eq_getElem hlt)).2
  -- what the operation looks at reads as told
  have hlook : ∀ (x : Nat → Value) (g : GG D nu s.o w0 l es (fun c => (s.o :: os).getD c [])), (∀ i, depB l.toArray k i = true → (atN (rs.mapIdx (fun k r => specG D nu s.o w0 l es (fun c => (s.o :: os).getD c []) k r)) i).p (x i) g) → ∀ (t : Nat) c v, t ∈ oo.looksAt l.toArray → sk.t[t]? = some c → (A x).tmps[t]? = some v → RA D g.nu ((s.o :: os).getD g.c []) g.w c v := by
   intro x g hD t c v ht h1 h2
   rcases hI.val x t c v h1 h2 with ⟨h3, h4⟩ | ⟨i, q1, ⟨oi, q2, q5⟩, q3, q4⟩
   ·exact (hs.tm.at' t c v h3 h4).mono g.mono (fun _ _ h => h)
   ·rcases ghost_pair hrel q1 q2 hok with h5 | h5
    ·have := (hspec x g i c (hD i h5) q3).1
     rw [q4]; exact this
    ·exact absurd ht (h5 t q5)
  have hevs : ∀ (x : Nat → Value) (g : GG D nu s.o w0 l es (fun c => (s.o :: os).getD c [])), (∀ i, depB l.toArray k i = true → (atN (rs.mapIdx (fun k r => specG D nu s.o w0 l es (fun c => (s.o :: os).getD c []) k r)) i).p (x i) g) → Evs D g.nu ((s.o :: os).getD g.c []) g.w sk.ev (A x).eval oo.op := by
   intro x g hD y hy
   cases y with
   | tmp t =>
    simp only [AS.ev, Act.eval]
    rcases Nat.lt_or_ge t sk.t.length with hlt | hge
    ·have e1 : sk.t[t]? = some sk.t[t] := List.getElem?_eq_getElem hlt
     have hlt' : t < (A x).tmps.size := by rw [← hI.size x]; exact hlt
     have hx : (A x).tmps[t]? = some (A x).tmps[t] := Array.getElem?_eq_getElem hlt'
     rw [getD_some e1]
     have : (A x).tmps.getD t Go.undef = (A x).tmps[t] := by simp [Array.getD, hlt']
     rw [this]
     exact hlook x g hD t _ _ (List.mem_append_left _ (List.mem_filterMap.2 ⟨.tmp t, hy, rfl⟩)) e1 hx
    ·have e0 : sk.t.getD t .undef = .undef := by rw [List.getD_eq_getElem?_getD, List.getElem?_eq_none hge]; rfl
     rw [e0]
     exact .undef _
   | const v => exact .v v
   | global gi => exact (glob_ra hs.ro sk gi).mono g.mono (fun _ _ h => h)
   | func f => exact .fn f [] [] #[] #[] rfl rfl (fun i c x h => by simp at h) (fun i c x h => by simp at h)
  have hcont : ∀ (x : Nat → Value), es.contains k = false → ∀ m' e, es[m']? = some e → (e < k + 1 ↔ m' < m) := fun _ he m' e h => by
   have hne : e ≠ k := fun hh => by
    subst hh
    have := List.mem_of_getElem? h
    simp [this] at he
   rw [← hme m' e h]; omega
  rcases ht with ⟨he, hg, o', os', rfl, hd, htr⟩ | ⟨he, hstep, htr⟩
  ·-- it turns memory
   have hkm : k ∈ es := by simpa using he
   obtain ⟨mk, hmk⟩ := List.getElem?_of_mem hkm
   have hmke : mk = m := by
    have h1 : ¬ mk < m := fun hh => by have := (hme mk k hmk).2 hh; omega
    rcases Nat.lt_or_ge m mk with q | q
    ·have hlt2 : m < es.length := by have := (List.getElem?_eq_some_iff.1 hmk).1; omega
     have hem : es[m]? = some es[m] := List.getElem?_eq_getElem hlt2
     have hlt3 := riseB_lt hrise m mk _ _ q hem hmk
     have := (hme m _ hem).1 hlt3
     omega
    ·omega
   subst hmke
   have hOm1 : (s.o :: os).getD (mk + 1) [] = o' := by
    have h1 := congrArg (fun (l : List (List (Option AObj))) => l[1]?) hO
    simp only [List.getElem?_drop] at h1
    rw [List.getD_eq_getElem?_getD, h1]; rfl
   refine ⟨fun x g hE hD hp => ?_, ?_⟩
   ·have hdd := hdoneD x g hD
    have hfx : fixB l.toArray es k = true := by
     rcases hfix k hlt with ((h | h) | h) | h
     ·have := h.2; simp [hkm] at this
     ·exact h
     ·exfalso
      simp only [floB] at h
      split at h
      ·simp only [Bool.and_eq_true, List.all_eq_true, Bool.or_eq_true, decide_eq_true_eq] at h
       rcases h.2 k hkm with q | q
       ·omega
       ·simp at q
      ·cases h
     ·exfalso
      simp only [laBH] at h
      split at h
      ·simp only [Bool.and_eq_true] at h
       have := h.1.1.1; simp [hkm] at this
      ·cases h
    have hc : g.c = mk := g.at_place hfx hdd hp hme hml
    have hev := hevs x g hD
    have hro := g.ro
    simp only [hc, hOm] at hev hro
    refine .inl ⟨by simp [Region.wanted, hg], ?_⟩
    rw [hspecK]
    have hgo : ∀ (v : Value) (w' : World) (nu' : Nat → Nat → Value), Mono g.nu sk.o g.w nu' o' w' → RO D nu' o' w' → RA D nu' o' w' r v →
      ∃ g' : GG D nu s.o w0 l es (fun c => (s.o :: os).getD c []), (ghostN D nu s.o w0 l es (fun c => (s.o :: os).getD c [])).wd g' = w' ∧ (ghostN D nu s.o w0 l es (fun c => (s.o :: os).getD c [])).R g g' ∧ (∀ i, i ≠ k → (ghostN D nu s.o w0 l es (fun c => (s.o :: os).getD c [])).pre i g → (ghostN D nu s.o w0 l es (fun c => (s.o :: os).getD c [])).pre i g') ∧ (specG D nu s.o w0 l es (fun c => (s.o :: os).getD c []) k r).p v g' := by
     intro v w' nu' m1 m2 m3
     have hm' : Mono g.nu ((s.o :: os).getD g.c []) g.w nu' ((s.o :: os).getD (g.c + 1) []) w' := by rw [hc, hOm, hOm1]; exact m1
     have hr' : RO D nu' ((s.o :: os).getD (g.c + 1) []) w' := by rw [hc, hOm1]; exact m2
     have hek : es[g.c]? = some k := by rw [hc]; exact hmk
     have hR2 := g.eff_R k w' nu' hm' hr' hdd hek (riseB_nodup hrise)
     refine ⟨g.eff k w' nu' hm' hr' hdd hek (riseB_nodup hrise), rfl, hR2.1, hR2.2, ?_, ?_⟩
     ·show RA D nu' ((s.o :: os).getD (g.c + 1) []) w' r v
      rw [hc, hOm1]; exact m3
     ·show (if k = k then true else g.done k) = true
      simp
    rcases adoE_good (P := P) (rho := (A x).eval) hro hev hd with ⟨v, w', nu', h1, m1, m2, m3⟩ | ⟨gf, vargs, h1, h2⟩
    ·rcases h1 with h1 | ⟨h1, rfl⟩
     ·have e1 : (execOp (A x).eval oo).run P ((ghostN D nu s.o w0 l es (fun c => (s.o :: os).getD c [])).wd g) = .ok (.value v) w' := h1
      rw [e1]; exact hgo v w' nu' m1 m2 m3
     ·have e1 : (execOp (A x).eval oo).run P ((ghostN D nu s.o w0 l es (fun c => (s.o :: os).getD c [])).wd g) = .ok .skip w' := h1
      rw [e1]; exact hgo _ w' nu' m1 m2 m3
    ·have e1 : (execOp (A x).eval oo).run P ((ghostN D nu s.o w0 l es (fun c => (s.o :: os).getD c [])).wd g) = .ok (.enter gf vargs) g.w := h1
     rw [e1]
     refine h2.mono ?_
     rintro e w' ⟨v, nu', rfl, m1, m2, m3⟩
     obtain ⟨g', k1, k2, k3, k4⟩ := hgo v w' nu' m1 m2 m3
     exact ⟨v, g', rfl, k1, k2, k3, k4⟩
   ·refine adrawH_good hB hs hR rest (k + 1) (mk + 1) (sk.put oo.dst r o') (hist ++ [sk.o]) (rs1 ++ [r]) rs' os' _ hl' htr (by rw [List.take_succ_eq_append_getElem (by have := congrArg List.length hO; simp at this ⊢; omega), hhi]; congr 1; have := hOm; rw [List.getD_eq_getElem?_getD, List.getElem?_eq_getElem (by have := congrArg List.length hO; simp at this ⊢; omega)] at this; simpa using this) hrs' (hI.step hok r o') ?_ ((List.getElem?_eq_some_iff.1 hmk).1) (fun m' e h => ?_) hlt
    ·have := congrArg List.tail hO
     rw [List.tail_drop] at this
     exact this
    ·by_cases hek : e = k
     ·subst hek
      have : m' = mk := (List.getElem?_inj (List.getElem?_eq_some_iff.1 h).1 (riseB_nodup hrise)).1 (h.trans hmk.symm)
      omega
     ·have := hme m' e h
      have hne : m' ≠ mk := fun hh => by subst hh; rw [hmk] at h; cases h; exact hek rfl
      omega
  ·refine ⟨fun x g hE hD hp => ?_, ?_⟩
   ·have hdd := hdoneD x g hD
    rw [hspecK]
    have hnext : ∀ (v : Value) (w' : World), RA D g.nu ((s.o :: os).getD g.c []) w' r v → Below g.w.heap.size g.w w' →
      ∃ g' : GG D nu s.o w0 l es (fun c => (s.o :: os).getD c []), (ghostN D nu s.o w0 l es (fun c => (s.o :: os).getD c [])).wd g' = w' ∧ (ghostN D nu s.o w0 l es (fun c => (s.o :: os).getD c [])).R g g' ∧ (∀ i, i ≠ k → (ghostN D nu s.o w0 l es (fun c => (s.o :: os).getD c [])).pre i g → (ghostN D nu s.o w0 l es (fun c => (s.o :: os).getD c [])).pre i g') ∧ (specG D nu s.o w0 l es (fun c => (s.o :: os).getD c []) k r).p v g' := by
     intro v w' hr hb
     have hR2 := g.next_R k w' hb hdd he
     refine ⟨g.next k w' hb hdd he, rfl, hR2.1, hR2.2, hr, ?_⟩
     show (if k = k then true else g.done k) = true
     simp
    have hyv : ∀ j want, oo.guard = some (j, want) → ∀ gg, gval l sk j = some gg → yielded l.toArray (A x).tmps j = gg := fun j want hg gg hgv =>
     gval_good (s := ⟨sk.t, (s.o :: os).getD g.c [], sk.y⟩) (D := D) (nu := g.nu) (w := g.w) (fun d c v hd h1 h2 => by
      refine hlook x g hD d c v ?_ h1 h2
      obtain ⟨og, q1, q2⟩ := hd
      refine List.mem_append_right _ ?_
      simp only [hg, List.getElem?_toArray, q1, Option.bind_some, q2]
      simp) (hI.size x) (show gval l ⟨sk.t, _, sk.y⟩ j = some gg from hgv)
    rcases hstep with ⟨hw, hd, hfl, hlat⟩ | ⟨_, _, rfl, j, want, gg, hg, hgv, hno⟩
    ·have hwant : Region.wanted oo (yielded l.toArray (A x).tmps) = true := by
      rcases hw with hg | ⟨j, want, b, hg, hgv, hb⟩
      ·simp [Region.wanted, hg]
      ·simp only [Region.wanted, hg, hyv j want hg _ hgv]; simpa using hb
     refine .inl ⟨hwant, ?_⟩
     have hd' : ADoS P oo.op ⟨sk.t, (s.o :: os).getD g.c [], sk.y⟩ (fun r' => r' = r) := by
      rcases hfix k hlt with ((h | h) | h) | h
      ·rw [show l.toArray[k]? = some oo by simpa using hok] at h
       exact adoS_free (by simpa using h.1) (show ADoS P oo.op ⟨sk.t, sk.o, sk.y⟩ (fun r' => r' = r) from hd)
      ·have hc : g.c = m := g.at_place h hdd hp hme hml
       rw [hc, hOm]; exact hd
      ·have hlo : ∃ lo, floF fs k = some lo := by
        simp only [floB] at h
        split at h
        ·exact ⟨_, ‹_›⟩
        ·cases h
       obtain ⟨lo, hlo⟩ := hlo
       obtain ⟨c1, c2⟩ := g.at_float h hlo hdd hp hme
       rcases Nat.eq_or_lt_of_le c2 with hc | hc
       ·rw [hc, hOm]; exact hd
       ·have hgl : g.c < (s.o :: os).length := by have := congrArg List.length hO; simp at this ⊢; omega
        refine hfl lo hlo _ ?_
        rw [← hhi, List.getD_eq_getElem?_getD, List.getElem?_eq_getElem hgl]
        refine List.mem_drop_iff_getElem.2 ⟨g.c - lo, by simp at hgl ⊢; omega, ?_⟩
        rw [List.getElem_take]
        simp only [Option.getD_some]
        congr 1
        omega
      ·obtain ⟨cc, hcc, q1, q2, q3, q4⟩ := laBH_ex h
       have hc := g.at_lateH q3 hdd hme hml
       rcases Nat.eq_or_lt_of_le hc with hc | hc
       ·rw [← hc, hOm]; exact hd
       ·have hle := g.le
        have hln := trH_len hszs hrise rest (k + 1) m _ _ _ _ _ hl' (by omega) htr hml (hcont (fun _ => Go.undef) he)
        have e1 := congrArg (fun (l : List (List (Option AObj))) => l[g.c - m]?) hO
        obtain ⟨d, hd1⟩ : ∃ d, g.c - m = d + 1 := ⟨g.c - m - 1, by omega⟩
        simp only [List.getElem?_drop, show m + (g.c - m) = g.c by omega] at e1
        rw [hd1, List.getElem?_cons_succ, List.getElem?_eq_getElem (l := os2) (by omega)] at e1
        rw [List.getD_eq_getElem?_getD, e1]
        have hlt3 : m + d < es.length := by omega
        have hed : es[m + d]? = some es[m + d] := List.getElem?_eq_getElem hlt3
        refine hlat q1 cc hcc d es[m + d] _ ?_ ?_ (List.getElem?_eq_getElem (l := os2) (by omega))
        ·rw [fltH_drop (hcont (fun _ => Go.undef) he), List.getElem?_drop]; exact hed
        ·rcases Nat.lt_or_ge es[m + d] cc with q | q
         ·exact q
         ·exfalso
          have h5 := inCl_done g _ _ _ (q4 _ (List.getElem_mem hlt3) q) ((g.ef _ _ hed).2 (by omega))
          have h6 : g.done k = false := hp
          rw [h6] at h5; cases h5
     obtain ⟨r', rfl, hout⟩ := adoS_good (P := P) (s := ⟨sk.t, (s.o :: os).getD g.c [], sk.y⟩) (rho := (A x).eval) g.ro (hevs x g hD) hd'
     have e0 : (execOp (A x).eval oo).run P ((ghostN D nu s.o w0 l es (fun c => (s.o :: os).getD c [])).wd g) = (execOp (A x).eval oo).run P g.w := rfl
     rw [e0]
     generalize (execOp (A x).eval oo).run P g.w = res at hout
     cases res with
     | halt _ _ => exact hout.elim
     | ok n w' =>
      cases n <;> first | exact hout.elim | skip
      case value u => exact hnext u w' hout.1.2 hout.2
      case skip => exact hnext _ w' hout.1.2 hout.2
      case enter gf vargs =>
       refine Calls.mono hout ?_
       rintro e w'' ⟨v, rfl, hv, hb⟩
       obtain ⟨g', k1, k2, k3, k4⟩ := hnext v w'' hv.2 hb
       exact ⟨v, g', rfl, k1, k2, k3, k4⟩
    ·refine .inr ⟨?_, ?_⟩
     ·simp only [Region.wanted, hg, hyv j want hg _ hgv]
      rcases hno with rfl | ⟨b, rfl, hb⟩
      ·rfl
      ·simpa using hb
     ·obtain ⟨g', k1, k2, k3, k4⟩ := hnext Go.undef g.w (.v _) (.refl _ _)
      exact ⟨g', k1, k2, k3, k4⟩
   ·have hO' : (s.o :: os).drop m = (sk.put oo.dst r s.o).o :: os2 → True := fun _ => trivial
    refine adrawH_good hB hs hR rest (k + 1) m (sk.put oo.dst r sk.o) hist (rs1 ++ [r]) rs' os2 _ hl' ?_ hhi hrs' (hI.step hok r sk.o) hO hml (hcont (fun _ => Go.undef) he) hlt
    exact htr

theorem awp_drawH {n0 id : Nat} {s : AS} {l : List Oper} {Q : AExit → AS → Prop} (es : List Nat) (fs : List (Nat × Nat)) (hB : ghostH l.toArray es fs = true) (hC : calmB l.toArray = true) (h : ADrawH P l es fs l 0 s [] none (Q .normal)) : AWp P n0 (.region id l.toArray true) s Q := by
 refine .inr (fun f m D nu a w hZr hn hm hs hmx R hO hR => ?_)
 obtain ⟨rs, os, sf, htr, _, hq⟩ := adrawH_tr (by simp only [ghostH, Bool.and_eq_true] at hB; exact hB.1.1.2) l 0 s [] h
 have hs' := hs.drew
 have hrel : relGB l.toArray = true := by
  simp only [ghostH, Bool.and_eq_true] at hB
  exact hB.1.1.1
 let g0 : GG D nu s.o w.drew l es (fun c => (s.o :: os).getD c []) := ⟨w.drew, nu, fun _ => false, 0, hs'.ro, .refl _ _ _, (fun _ _ h => by cases h), (fun _ _ _ => by simp), Nat.zero_le _⟩
 have hobl := adrawH_good (P := P) (R := R) (rs := rs) (g0 := g0) hB hs' (fun a' w' nu' h1 hy h2 => hR .normal D f.Z sf a' w' nu' (by rw [hy]; exact m.own hm hs.ro ((mono_below (below_drew w)).trans h1) h2.ro) h2 hq) l 0 0 s [] [] rs os (fun _ => a) (by simp) htr (by simp) (by simp) ⟨rfl, rfl, fun _ => rfl, fun _ => hs.tm.len, fun x t c v h1 h2 => .inl ⟨h1, h2⟩⟩ (by simp) (Nat.zero_le _) (fun m' e _ => by simp) (Nat.zero_le _)
 exact wpIn_any hmx hC hO (any_region_ghost (N := ghostN D nu s.o w.drew l es (fun c => (s.o :: os).getD c [])) _ hrel g0 rfl (fun _ => rfl) hobl)
theorem adrawH_k {all rest : List Oper} {es : List Nat} {fs : List (Nat × Nat)} {oo : Oper} {k : Nat} {s : AS} {hist : List (List (Option AObj))} {pn : Option (Nat → List (Option AObj) → Prop)} {Q : AS → Prop} (he : (es.contains k || (floF fs k).isSome || (latH fs k).isSome) = false) (h : ∀ K : AS → Prop, (∀ s', ADrawH P all es fs rest (k + 1) s' hist pn Q → K s') → AStepS P all oo s K) : ADrawH P all es fs (oo :: rest) k s hist pn Q := by
 simp only [Bool.or_eq_false_iff] at he
 simp only [ADrawH, he.1.1, Bool.false_eq_true, if_false]
 cases hf : floF fs k with
 | some lo => rw [hf] at he; simp at he
 | none =>
  have : latH fs k = none := by have := he.2; simpa using this
  rw [this]; exact h _ (fun _ h => h)
theorem adrawH_eL {all rest : List Oper} {es : List Nat} {fs : List (Nat × Nat)} {dst : Option Tmp} {op : Op} {ty : TypeId} {pos : String} {aft : Array Edge} {k : Nat} {s : AS} {hist : List (List (Option AObj))} {p : Nat → List (Option AObj) → Prop} {Q : AS → Prop} (he : es.contains k = true) (h : ∀ K : AS → Prop, (∀ s', ADrawH P all es fs rest (k + 1) s' (hist ++ [s.o]) (some p) Q → K s') → ADoE P op s (fun r o' => p k o' ∧ K (s.put dst r o'))) : ADrawH P all es fs (⟨dst, op, ty, pos, aft, none⟩ :: rest) k s hist (some p) Q := by
 simp only [ADrawH, he, if_true, pnH]
 exact h _ (fun _ h => h)
theorem adrawH_l {all rest : List Oper} {es : List Nat} {fs : List (Nat × Nat)} {dst : Option Tmp} {op : Op} {ty : TypeId} {pos : String} {aft : Array Edge} {k c : Nat} {s : AS} {hist : List (List (Option AObj))} {pn : Option (Nat → List (Option AObj) → Prop)} {Q : AS → Prop} (he : (!es.contains k && (floF fs k).isNone) = true) (hc : latH fs k = some c) (h : ADoS P op s (fun r => ADrawH P all es fs rest (k + 1) (s.put dst r s.o) hist (some fun k' o' => pnH pn k' o' ∧ (if k' < c then ADoS P op ⟨s.t, o', s.y⟩ (fun r' => r' = r) else True)) Q)) : ADrawH P all es fs (⟨dst, op, ty, pos, aft, none⟩ :: rest) k s hist pn Q := by
 simp only [Bool.and_eq_true, Bool.not_eq_true'] at he
 simp only [ADrawH, he.1, Bool.false_eq_true, if_false]
 cases hf : floF fs k with
 | some lo => rw [hf] at he; simp at he
 | none => rw [hc]; exact ⟨trivial, h⟩
theorem adrawH_nil {all : List Oper} {es : List Nat} {fs : List (Nat × Nat)} {k : Nat} {s : AS} {hist : List (List (Option AObj))} {pn : Option (Nat → List (Option AObj) → Prop)} {Q : AS → Prop} (h : Q s) : ADrawH P all es fs [] k s hist pn Q := h
instance {all : List Oper} {es : List Nat} {fs : List (Nat × Nat)} {k : Nat} {s : AS} {hist : List (List (Option AObj))} {pn : Option (Nat → List (Option AObj) → Prop)} {Q : AS → Prop} : Stp (ADrawH P all es fs [] k s hist pn Q) (Q s) := ⟨adrawH_nil⟩
end
attribute [go_sem] pnH
end Go.Proofs.YtmdkgajjekbanaaDoor
