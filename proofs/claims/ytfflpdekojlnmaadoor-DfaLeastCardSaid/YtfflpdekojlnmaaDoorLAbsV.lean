/- The abstract walk: regions that draw their order and turn memory: as they stand, where each operation that looks at what is turned comes at one place among those that turn it. -/
import Derived.Test.YtfflpdekojlnmaaDoorLRelG
set_option linter.unusedSimpArgs false
set_option linter.unusedVariables false
namespace Go.Proofs.YtfflpdekojlnmaaDoor
open Go.RowKit

section
variable {D : Nat → Prop} {nu : Nat → Nat → Value} {o : List (Option AObj)} {w : World} {P : Program}

def ofreeB : Op → Bool
 | .move _ | .assign _ | .nilCheck _ | .build .. | .binOp .. | .unOp .. | .convert .. | .makeFunc .. | .fieldAddr .. | .field .. | .index .. | .extract .. | .pick .. | .box .. | .buildSlice .. => true
 | _ => false
theorem adoS_free {op : Op} (h : ofreeB op = true) {t : List AV} {o o' : List (Option AObj)} {y : YSt} {K : AV → Prop} (hd : ADoS P op ⟨t, o, y⟩ K) : ADoS P op ⟨t, o', y⟩ K := by
 cases op with
 | makeFunc fn a b => cases fn <;> exact hd
 | _ => first | (cases h; done) | exact hd

def ACallE (P : Program) (f : FuncId) (args : List AV) (o : List (Option AObj)) (K : AV → List (Option AObj) → Prop) : Prop := ∃ r o', CallE P f args o r o' ∧ K r o'
@[congr] theorem ACallE_congr {f : FuncId} {args args' : List AV} {o o' : List (Option AObj)} {K : AV → List (Option AObj) → Prop} (h : args = args') (k : o = o') : ACallE P f args o K = ACallE P f args' o' K := by rw [h, k]
def AFnE (P : Program) (f : AV) (args : List AV) (o : List (Option AObj)) (K : AV → List (Option AObj) → Prop) : Prop := match f with
 | .fn g first caps => ACallE P g (first ++ args ++ caps) o K
 | _ => False
@[congr] theorem AFnE_congr {f f' : AV} {args args' : List AV} {o o' : List (Option AObj)} {K : AV → List (Option AObj) → Prop} (h : f = f') (k : args = args') (l : o = o') : AFnE P f args o K = AFnE P f' args' o' K := by rw [h, k, l]
theorem AFnE_fn (g : FuncId) (first caps args : List AV) (o : List (Option AObj)) (K : AV → List (Option AObj) → Prop) : AFnE P (.fn g first caps) args o K = ACallE P g (first ++ args ++ caps) o K := rfl
def ADoE (P : Program) (op : Op) (s : AS) (K : AV → List (Option AObj) → Prop) : Prop := match op with
 | .pick _ _ _ => False
 | .call c => match c.callee with
  | .value f => AFnE P (s.ev f) (c.args.toList.map s.ev) s.o K
  | _ => AR (aop P s.ev s.o (.call c)) K
 | op => AR (aop P s.ev s.o op) K
theorem adoE_ex {s : AS} {op : Op} {K : AV → List (Option AObj) → Prop} (h : ADoE P op s K) : ∃ r o', K r o' ∧ ADoE P op s (fun r' o'' => r' = r ∧ o'' = o') := by
 unfold ADoE at h ⊢
 split at h
 ·exact h.elim
 ·split at h
  ·unfold AFnE at h ⊢
   split at h
   ·obtain ⟨r, o', h1, h2⟩ := h
    exact ⟨r, o', h2, r, o', h1, rfl, rfl⟩
   ·exact h.elim
  ·unfold AR at h ⊢
   split at h
   ·exact ⟨_, _, h.2, h.1, rfl, rfl⟩
   ·exact h.elim
 ·unfold AR at h ⊢
  split at h
  ·exact ⟨_, _, h.2, h.1, rfl, rfl⟩
  ·exact h.elim
theorem adoE_good {s : AS} {rho : Operand → Value} {oo : Oper} {r : AV} {o' : List (Option AObj)} (h : RO D nu s.o w) (hev : Evs D nu s.o w s.ev rho oo.op) (hd : ADoE P oo.op s (fun r' o'' => r' = r ∧ o'' = o')) :
  (∃ v w' nu', ((execOp rho oo).run P w = .ok (.value v) w' ∨ ((execOp rho oo).run P w = .ok .skip w' ∧ v = Go.undef)) ∧ Mono nu s.o w nu' o' w' ∧ RO D nu' o' w' ∧ RA D nu' o' w' r v) ∨
  (∃ g vargs, (execOp rho oo).run P w = .ok (.enter g vargs) w ∧ Calls P g vargs w (fun e w' => ∃ v nu', e = .returned v ∧ Mono nu s.o w nu' o' w' ∧ RO D nu' o' w' ∧ RA D nu' o' w' r v)) := by
 have hop : ∀ op, oo.op = op → AR (aop P s.ev s.o op) (fun r' o'' => r' = r ∧ o'' = o') → (∃ v w' nu', ((execOp rho oo).run P w = .ok (.value v) w' ∨ ((execOp rho oo).run P w = .ok .skip w' ∧ v = Go.undef)) ∧ Mono nu s.o w nu' o' w' ∧ RO D nu' o' w' ∧ RA D nu' o' w' r v) := by
  intro op ho hh
  subst ho
  unfold AR at hh
  split at hh
  ·rename_i p r1 o1 e
   obtain ⟨hp, rfl, rfl⟩ := hh
   obtain ⟨v, w', nu', h1, h2, h3, h4⟩ := aop_good (P := P) h hev e hp
   exact ⟨v, w', nu', h1, h2, h3, h4⟩
  ·exact hh.elim
 unfold ADoE at hd
 split at hd
 ·exact hd.elim
 ·rename_i c ho
  split at hd
  ·rename_i f hc
   unfold AFnE at hd
   split at hd
   ·rename_i g first caps e
    obtain ⟨r1, o1, hcall, rfl, rfl⟩ := hd
    have hf := hev f (by rw [ho]; simp [Op.operands, Call.operands, hc])
    rw [e] at hf
    generalize hq : rho f = vf at hf
    cases hf with
    | fn _ _ _ fi ca q1 q2 q3 q4 =>
    have hargs : ∀ x, x ∈ c.args.toList → RA D nu s.o w (s.ev x) (rho x) := fun x hx => hev x (by rw [ho]; simp only [Op.operands, Call.operands, hc]; simp; exact .inr (by simpa using hx))
    have hra : RAs D nu s.o w (first ++ c.args.toList.map s.ev ++ caps) (fi ++ c.args.map rho ++ ca) := by
     refine ⟨by simp [q1, q2], fun i cc x k1 k2 => ?_⟩
     rw [List.append_assoc] at k1
     rw [Array.append_assoc] at k2
     rcases Nat.lt_or_ge i first.length with l1 | l1
     ·rw [List.getElem?_append_left l1] at k1
      rw [Array.getElem?_append_left (by omega)] at k2
      exact q3 i cc x k1 k2
     ·rw [List.getElem?_append_right l1] at k1
      rw [Array.getElem?_append_right (by omega)] at k2
      rw [q1] at k1
      rcases Nat.lt_or_ge (i - fi.size) c.args.size with l2 | l2
      ·rw [List.getElem?_append_left (by simpa using l2), List.getElem?_map] at k1
       rw [Array.getElem?_append_left (by simpa using l2), Array.getElem?_map] at k2
       have e2 : c.args.toList[i - fi.size]? = c.args[i - fi.size]? := by simp
       rw [e2] at k1
       cases hk2 : c.args[i - fi.size]? with
       | none => rw [hk2] at k1; cases k1
       | some y =>
        rw [hk2] at k1 k2
        cases k1; cases k2
        exact hargs y (List.mem_of_getElem? (by rw [e2]; exact hk2))
      ·rw [List.getElem?_append_right (by simpa using l2)] at k1
       rw [Array.getElem?_append_right (by simpa using l2)] at k2
       simp only [List.length_map, Array.length_toList, Array.size_map] at k1 k2
       exact q4 _ cc x k1 k2
    refine .inr ⟨g, _, ?_, (hcall.2 D nu w _ h hra).mono ?_⟩
    ·simp only [execOp, ho, resolve, hc, hq, Deferred.ofValue, Sem.run_bind, Sem.run_pure, Result.andThen_ok, invoke]
     exact run_callFunc hcall.1 _ w
    ·rintro e w' ⟨v, nu', o2, r2, rfl, m1, m2, m3, rfl, rfl⟩
     exact ⟨v, nu', rfl, m1, m2, m3⟩
   ·exact hd.elim
  ·exact .inl (hop _ ho hd)
 ·exact .inl (hop _ rfl hd)

def floF : List (Nat × Nat) → Nat → Option Nat
 | [], _ => none
 | (j, lo) :: fs, k => if j = k ∧ lo < 1000 then some lo else floF fs k
def latF : List (Nat × Nat) → Nat → Bool
 | [], _ => false
 | (j, lo) :: fs, k => decide (j = k ∧ lo = 1000) || latF fs k
def pnd : Option (List (Option AObj) → Prop) → List (Option AObj) → Prop
 | none, _ => True
 | some p, o => p o
def ADrawG (P : Program) (all : List Oper) (es : List Nat) (fs : List (Nat × Nat)) : List Oper → Nat → AS → List (List (Option AObj)) → Option (List (Option AObj) → Prop) → (AS → Prop) → Prop
 | [], _, s, _, _, Q => Q s
 | oo :: rest, k, s, hist, pn, Q => if es.contains k then (match oo.guard with
   | none => ADoE P oo.op s (fun r o' => pnd pn o' ∧ ADrawG P all es fs rest (k + 1) (s.put oo.dst r o') (hist ++ [s.o]) pn Q)
   | some _ => False) else match floF fs k with
   | some lo => oo.guard = none ∧ ADoS P oo.op s (fun r => (∀ o', o' ∈ hist.drop lo → ADoS P oo.op ⟨s.t, o', s.y⟩ (fun r' => r' = r)) ∧ ADrawG P all es fs rest (k + 1) (s.put oo.dst r s.o) hist pn Q)
   | none => if latF fs k = true then oo.guard = none ∧ ADoS P oo.op s (fun r => ADrawG P all es fs rest (k + 1) (s.put oo.dst r s.o) hist (some fun o' => pnd pn o' ∧ ADoS P oo.op ⟨s.t, o', s.y⟩ (fun r' => r' = r)) Q)
    else AStepS P all oo s (fun s' => ADrawG P all es fs rest (k + 1) s' hist pn Q)
def TrG (P : Program) (all : List Oper) (es : List Nat) (fs : List (Nat × Nat)) : List Oper → Nat → AS → List (List (Option AObj)) → List AV → List (List (Option AObj)) → AS → Prop
 | [], _, s, _, rs, os, sf => rs = [] ∧ os = [] ∧ sf = s
 | oo :: rest, k, s, hist, rs, os, sf => ∃ r rs', rs = r :: rs' ∧
   ((es.contains k = true ∧ oo.guard = none ∧ ∃ o' os', os = o' :: os' ∧ ADoE P oo.op s (fun r' o'' => r' = r ∧ o'' = o') ∧ TrG P all es fs rest (k + 1) (s.put oo.dst r o') (hist ++ [s.o]) rs' os' sf) ∨
   (es.contains k = false ∧ (((oo.guard = none ∨ ∃ j want b, oo.guard = some (j, want) ∧ gval all s j = some (some b) ∧ (b == want) = true) ∧ ADoS P oo.op s (fun r' => r' = r) ∧ (∀ lo, floF fs k = some lo → ∀ o', o' ∈ hist.drop lo → ADoS P oo.op ⟨s.t, o', s.y⟩ (fun r' => r' = r)) ∧ (floF fs k = none → latF fs k = true → ∀ o', o' ∈ os → ADoS P oo.op ⟨s.t, o', s.y⟩ (fun r' => r' = r))) ∨
    (floF fs k = none ∧ latF fs k = false ∧ r = .v Go.undef ∧ ∃ j want g, oo.guard = some (j, want) ∧ gval all s j = some g ∧ (g = none ∨ ∃ b, g = some b ∧ (b == want) = false))) ∧ TrG P all es fs rest (k + 1) (s.put oo.dst r s.o) hist rs' os sf))
theorem adrawG_tr {all : List Oper} {es : List Nat} {fs : List (Nat × Nat)} : ∀ (rest : List Oper) (k : Nat) (s : AS) (hist : List (List (Option AObj))) {pn : Option (List (Option AObj) → Prop)} {Q : AS → Prop}, ADrawG P all es fs rest k s hist pn Q → ∃ rs os sf, TrG P all es fs rest k s hist rs os sf ∧ (∀ o', o' ∈ os → pnd pn o') ∧ Q sf
 | [], k, s, hist, pn, Q, h => ⟨[], [], s, ⟨rfl, rfl, rfl⟩, (fun _ h => by cases h), h⟩
 | oo :: rest, k, s, hist, pn, Q, h => by
  simp only [ADrawG] at h
  cases he : es.contains k
  ·rw [he] at h
   simp only [Bool.false_eq_true, if_false] at h
   cases hf : floF fs k with
   | some lo =>
    rw [hf] at h
    obtain ⟨hg, h⟩ := h
    obtain ⟨r, ⟨hh, hk⟩, hr⟩ := ados_ex h
    obtain ⟨rs, os, sf, h1, h2⟩ := adrawG_tr rest (k + 1) _ hist hk
    exact ⟨r :: rs, os, sf, ⟨r, rs, rfl, .inr ⟨he, .inl ⟨.inl hg, hr, (fun lo' hl => by rw [hf] at hl; cases hl; exact hh), fun hn => by rw [hf] at hn; cases hn⟩, h1⟩⟩, h2⟩
   | none =>
   rw [hf] at h
   have hno : ∀ r lo, floF fs k = some lo → ∀ o', o' ∈ hist.drop lo → ADoS P oo.op ⟨s.t, o', s.y⟩ (fun r' => r' = r) := fun r lo hl => by rw [hf] at hl; cases hl
   simp only at h
   cases hlt : latF fs k
   case true =>
    rw [hlt] at h
    simp only [if_true] at h
    obtain ⟨hg, h⟩ := h
    obtain ⟨r, hk, hr⟩ := ados_ex h
    obtain ⟨rs, os, sf, h1, h0, h2⟩ := adrawG_tr rest (k + 1) _ hist hk
    exact ⟨r :: rs, os, sf, ⟨r, rs, rfl, .inr ⟨he, .inl ⟨.inl hg, hr, hno r, fun _ _ o' ho' => (h0 o' ho').2⟩, h1⟩⟩, fun o' ho' => (h0 o' ho').1, h2⟩
   have hla : ∀ (r : AV) (os : List (List (Option AObj))), floF fs k = none → latF fs k = true → ∀ o', o' ∈ os → ADoS P oo.op ⟨s.t, o', s.y⟩ (fun r' => r' = r) := fun r os _ h => by rw [hlt] at h; cases h
   rw [hlt] at h
   simp only [Bool.false_eq_true, if_false] at h
   simp only [AStepS] at h
   split at h
   ·rename_i hg
    obtain ⟨r, hk, hr⟩ := ados_ex h
    obtain ⟨rs, os, sf, h1, h2⟩ := adrawG_tr rest (k + 1) _ hist hk
    exact ⟨r :: rs, os, sf, ⟨r, rs, rfl, .inr ⟨he, .inl ⟨.inl hg, hr, hno r, hla r _⟩, h1⟩⟩, h2⟩
   ·rename_i j want hg
    unfold AGd at h
    split at h
    ·rename_i b e
     cases hb : b == want
     ·rw [hb, AIf_false] at h
      obtain ⟨rs, os, sf, h1, h2⟩ := adrawG_tr rest (k + 1) _ hist h
      exact ⟨_ :: rs, os, sf, ⟨_, rs, rfl, .inr ⟨he, .inr ⟨hf, hlt, rfl, j, want, _, hg, e, .inr ⟨b, rfl, hb⟩⟩, h1⟩⟩, h2⟩
     ·rw [hb, AIf_true] at h
      obtain ⟨r, hk, hr⟩ := ados_ex h
      obtain ⟨rs, os, sf, h1, h2⟩ := adrawG_tr rest (k + 1) _ hist hk
      exact ⟨r :: rs, os, sf, ⟨r, rs, rfl, .inr ⟨he, .inl ⟨.inr ⟨j, want, b, hg, e, hb⟩, hr, hno r, hla r _⟩, h1⟩⟩, h2⟩
    ·rename_i e
     obtain ⟨rs, os, sf, h1, h2⟩ := adrawG_tr rest (k + 1) _ hist h
     exact ⟨_ :: rs, os, sf, ⟨_, rs, rfl, .inr ⟨he, .inr ⟨hf, hlt, rfl, j, want, _, hg, e, .inl rfl⟩, h1⟩⟩, h2⟩
    ·exact h.elim
  ·rw [he] at h
   simp only [if_true] at h
   split at h
   ·rename_i hg
    obtain ⟨r, o', ⟨hpo, hk⟩, hr⟩ := adoE_ex h
    obtain ⟨rs, os, sf, h1, h0, h2⟩ := adrawG_tr rest (k + 1) _ _ hk
    exact ⟨r :: rs, o' :: os, sf, ⟨r, rs, rfl, .inl ⟨he, hg, o', os, rfl, hr, h1⟩⟩, fun o'' ho => (List.mem_cons.1 ho).elim (fun e => by rw [e]; exact hpo) (h0 o''), h2⟩
   ·exact h.elim

def inCl (ops : Array Oper) : Nat → Nat → Nat → Bool
 | 0, _, _ => false
 | n + 1, j, i => depB ops j i || (List.range ops.size).any (fun k => depB ops j k && inCl ops n k i)
def fixB (ops : Array Oper) (es : List Nat) (j : Nat) : Bool := es.all (fun e => decide (e = j) || if e < j then inCl ops ops.size j e else inCl ops ops.size e j)
def riseB : List Nat → Bool
 | [] => true
 | [_] => true
 | a :: b :: l => decide (a < b) && riseB (b :: l)
def floB (ops : Array Oper) (es : List Nat) (fs : List (Nat × Nat)) (j : Nat) : Bool := match floF fs j with
 | some lo => decide (lo ≤ es.length) && (es.take lo).all (fun e => inCl ops ops.size j e) && es.all (fun e => decide (e < j) || (e != j && inCl ops ops.size e j))
 | none => false
def latB (ops : Array Oper) (es : List Nat) (fs : List (Nat × Nat)) (j : Nat) : Bool := !es.contains j && (floF fs j).isNone && latF fs j && es.all (fun e => decide (j ≤ e) || inCl ops ops.size j e)
def ghostB (ops : Array Oper) (es : List Nat) (fs : List (Nat × Nat)) : Bool := relGB ops && riseB es && es.all (fun e => decide (e < ops.size)) && (List.range ops.size).all (fun j => (match ops[j]? with | some oo => ofreeB oo.op | none => true) && !es.contains j || fixB ops es j || floB ops es fs j || latB ops es fs j)

structure GG (D : Nat → Prop) (nu0 : Nat → Nat → Value) (o0 : List (Option AObj)) (w0 : World) (l : List Oper) (es : List Nat) (O : Nat → List (Option AObj)) where
 w : World
 nu : Nat → Nat → Value
 done : Nat → Bool
 c : Nat
 ro : RO D nu (O c) w
 mono : Mono nu0 o0 w0 nu (O c) w
 cl : ∀ j i, done j = true → depB l.toArray j i = true → done i = true
 ef : ∀ k e, es[k]? = some e → (done e = true ↔ k < c)
 le : c ≤ es.length

variable {nu0 : Nat → Nat → Value} {o0 : List (Option AObj)} {w0 : World} {l : List Oper} {es : List Nat} {O : Nat → List (Option AObj)}
def ghostN (D : Nat → Prop) (nu0 : Nat → Nat → Value) (o0 : List (Option AObj)) (w0 : World) (l : List Oper) (es : List Nat) (O : Nat → List (Option AObj)) : Notes :=
 ⟨GG D nu0 o0 w0 l es O, GG.w, fun g g' => Mono g.nu (O g.c) g.w g'.nu (O g'.c) g'.w ∧ ∀ j, g.done j = true → g'.done j = true, fun g => ⟨.refl _ _ _, fun _ h => h⟩, fun _ _ _ h k => ⟨h.1.trans k.1, fun j hj => k.2 j (h.2 j hj)⟩, fun j g => g.done j = false⟩
def specG (D : Nat → Prop) (nu0 : Nat → Nat → Value) (o0 : List (Option AObj)) (w0 : World) (l : List Oper) (es : List Nat) (O : Nat → List (Option AObj)) (k : Nat) (r : AV) : SpecN (ghostN D nu0 o0 w0 l es O) :=
 ⟨fun v g => RA D g.nu (O g.c) g.w r v ∧ g.done k = true, fun v g g' hR h => ⟨h.1.mono hR.1 (fun _ _ h => h), hR.2 k h.2⟩⟩
def GG.next (g : GG D nu0 o0 w0 l es O) (k : Nat) (w' : World) (hb : Below g.w.heap.size g.w w') (hd : ∀ i, depB l.toArray k i = true → g.done i = true) (he : es.contains k = false) : GG D nu0 o0 w0 l es O where
 w := w'
 nu := g.nu
 done := fun j => if j = k then true else g.done j
 c := g.c
 ro := g.ro.below hb
 mono := g.mono.trans (mono_below hb)
 cl := fun j i h1 h2 => by
  by_cases hi : i = k
  ·simp [hi]
  ·simp only [if_neg hi]
   by_cases hj : j = k
   ·subst hj; exact hd i h2
   ·simp only [if_neg hj] at h1; exact g.cl j i h1 h2
 ef := fun m e h => by
  have hne : e ≠ k := fun hh => by
   subst hh
   have := List.mem_of_getElem? h
   simp [this] at he
  simp only [if_neg hne]; exact g.ef m e h
 le := g.le
theorem GG.next_R (g : GG D nu0 o0 w0 l es O) (k : Nat) (w' : World) (hb : Below g.w.heap.size g.w w') (hd : ∀ i, depB l.toArray k i = true → g.done i = true) (he : es.contains k = false) :
  (ghostN D nu0 o0 w0 l es O).R g (g.next k w' hb hd he) ∧ ∀ i, i ≠ k → (ghostN D nu0 o0 w0 l es O).pre i g → (ghostN D nu0 o0 w0 l es O).pre i (g.next k w' hb hd he) := by
 refine ⟨⟨mono_below hb, fun j hj => ?_⟩, fun i hi h => ?_⟩
 ·show (if j = k then true else g.done j) = true
  by_cases hjk : j = k
  ·simp [hjk]
  ·simp [hjk, hj]
 ·show (if i = k then true else g.done i) = false
  simp [hi]; exact h
def GG.eff (g : GG D nu0 o0 w0 l es O) (k : Nat) (w' : World) (nu' : Nat → Nat → Value) (hm : Mono g.nu (O g.c) g.w nu' (O (g.c + 1)) w') (hr : RO D nu' (O (g.c + 1)) w') (hd : ∀ i, depB l.toArray k i = true → g.done i = true) (he : es[g.c]? = some k) (hn : es.Nodup) : GG D nu0 o0 w0 l es O where
 w := w'
 nu := nu'
 done := fun j => if j = k then true else g.done j
 c := g.c + 1
 ro := hr
 mono := g.mono.trans hm
 cl := fun j i h1 h2 => by
  by_cases hi : i = k
  ·simp [hi]
  ·simp only [if_neg hi]
   by_cases hj : j = k
   ·subst hj; exact hd i h2
   ·simp only [if_neg hj] at h1; exact g.cl j i h1 h2
 ef := fun m e h => by
  by_cases hek : e = k
  ·subst hek
   have : m = g.c := (List.getElem?_inj (List.getElem?_eq_some_iff.1 h).1 hn).1 (h.trans he.symm)
   simp [this]
  ·simp only [if_neg hek]
   have hne : m ≠ g.c := fun hh => by subst hh; rw [he] at h; cases h; exact hek rfl
   rw [g.ef m e h]; omega
 le := (List.getElem?_eq_some_iff.1 he).1
theorem GG.eff_R (g : GG D nu0 o0 w0 l es O) (k : Nat) (w' : World) (nu' : Nat → Nat → Value) (hm : Mono g.nu (O g.c) g.w nu' (O (g.c + 1)) w') (hr : RO D nu' (O (g.c + 1)) w') (hd : ∀ i, depB l.toArray k i = true → g.done i = true) (he : es[g.c]? = some k) (hn : es.Nodup) :
  (ghostN D nu0 o0 w0 l es O).R g (g.eff k w' nu' hm hr hd he hn) ∧ ∀ i, i ≠ k → (ghostN D nu0 o0 w0 l es O).pre i g → (ghostN D nu0 o0 w0 l es O).pre i (g.eff k w' nu' hm hr hd he hn) := by
 refine ⟨⟨hm, fun j hj => ?_⟩, fun i hi h => ?_⟩
 ·show (if j = k then true else g.done j) = true
  by_cases hjk : j = k
  ·simp [hjk]
  ·simp [hjk, hj]
 ·show (if i = k then true else g.done i) = false
  simp [hi]; exact h
theorem inCl_done (g : GG D nu0 o0 w0 l es O) : ∀ (n j i : Nat), inCl l.toArray n j i = true → g.done j = true → g.done i = true
 | 0, _, _, h, _ => by cases h
 | n + 1, j, i, h, hj => by
  simp only [inCl, Bool.or_eq_true, List.any_eq_true, Bool.and_eq_true] at h
  rcases h with h | ⟨k, _, h1, h2⟩
  ·exact g.cl j i hj h
  ·exact inCl_done g n k i h2 (g.cl j k hj h1)
theorem inCl_deps (g : GG D nu0 o0 w0 l es O) {n j i : Nat} (h : inCl l.toArray n j i = true) (hd : ∀ i, depB l.toArray j i = true → g.done i = true) : g.done i = true := by
 cases n with
 | zero => cases h
 | succ n =>
  simp only [inCl, Bool.or_eq_true, List.any_eq_true, Bool.and_eq_true] at h
  rcases h with h | ⟨k, _, h1, h2⟩
  ·exact hd i h
  ·exact inCl_done g n k i h2 (hd k h1)
theorem GG.at_place (g : GG D nu0 o0 w0 l es O) {k m : Nat} (hf : fixB l.toArray es k = true) (hd : ∀ i, depB l.toArray k i = true → g.done i = true) (hk : g.done k = false) (hm : ∀ m' e, es[m']? = some e → (e < k ↔ m' < m)) (hml : m ≤ es.length) : g.c = m := by
 simp only [fixB, List.all_eq_true, Bool.or_eq_true, decide_eq_true_eq] at hf
 have h1 : g.c ≤ m := by
  rcases Nat.lt_or_ge m g.c with q | q
  ·exfalso
   have hlt : m < es.length := Nat.lt_of_lt_of_le q g.le
   have he : es[m]? = some es[m] := List.getElem?_eq_getElem hlt
   have hdn := (g.ef m _ he).2 q
   have hge : ¬ es[m] < k := fun hh => by have := (hm m _ he).1 hh; omega
   rcases hf _ (List.getElem_mem hlt) with h | h
   ·rw [h, hk] at hdn; cases hdn
   ·rw [if_neg hge] at h
    have := inCl_done g _ _ _ h hdn
    rw [hk] at this; cases this
  ·exact q
 have h2 : m ≤ g.c := by
  rcases Nat.eq_zero_or_pos m with q | q
  ·omega
  ·have hlt : m - 1 < es.length := by omega
   have he : es[m - 1]? = some es[m - 1] := List.getElem?_eq_getElem hlt
   have hlk := (hm _ _ he).2 (by omega)
   rcases hf _ (List.getElem_mem hlt) with h | h
   ·omega
   ·rw [if_pos hlk] at h
    have := (g.ef _ _ he).1 (inCl_deps g h hd)
    omega
 omega

theorem GG.at_late (g : GG D nu0 o0 w0 l es O) {k m : Nat} {fs : List (Nat × Nat)} (hf : latB l.toArray es fs k = true) (hd : ∀ i, depB l.toArray k i = true → g.done i = true) (hm : ∀ m' e, es[m']? = some e → (e < k ↔ m' < m)) (hml : m ≤ es.length) : m ≤ g.c := by
 simp only [latB, Bool.and_eq_true, List.all_eq_true, Bool.or_eq_true, decide_eq_true_eq] at hf
 rcases Nat.eq_zero_or_pos m with q | q
 ·omega
 ·have hlt : m - 1 < es.length := by omega
  have he : es[m - 1]? = some es[m - 1] := List.getElem?_eq_getElem hlt
  have hlk := (hm _ _ he).2 (by omega)
  rcases hf.2 _ (List.getElem_mem hlt) with h | h
  ·omega
  ·have := (g.ef _ _ he).1 (inCl_deps g h hd)
   omega
theorem GG.at_float (g : GG D nu0 o0 w0 l es O) {k m lo : Nat} {fs : List (Nat × Nat)} (hf : floB l.toArray es fs k = true) (hlo : floF fs k = some lo) (hd : ∀ i, depB l.toArray k i = true → g.done i = true) (hk : g.done k = false) (hm : ∀ m' e, es[m']? = some e → (e < k ↔ m' < m)) : lo ≤ g.c ∧ g.c ≤ m := by
 simp only [floB, hlo, Bool.and_eq_true, List.all_eq_true, Bool.or_eq_true, decide_eq_true_eq] at hf
 obtain ⟨⟨h0, h1⟩, h2⟩ := hf
 constructor
 ·rcases Nat.eq_zero_or_pos lo with q | q
  ·omega
  ·have hlt : lo - 1 < es.length := by omega
   have he : es[lo - 1]? = some es[lo - 1] := List.getElem?_eq_getElem hlt
   have hmem : es[lo - 1] ∈ es.take lo := List.mem_take_iff_getElem.2 ⟨lo - 1, by omega, rfl⟩
   have := (g.ef _ _ he).1 (inCl_deps g (h1 _ hmem) hd)
   omega
 ·rcases Nat.lt_or_ge m g.c with q | q
  ·exfalso
   have hlt : m < es.length := Nat.lt_of_lt_of_le q g.le
   have he : es[m]? = some es[m] := List.getElem?_eq_getElem hlt
   have hdn := (g.ef m _ he).2 q
   have hge : ¬ es[m] < k := fun hh => by have := (hm m _ he).1 hh; omega
   rcases h2 _ (List.getElem_mem hlt) with h | h
   ·exact hge h
   ·have := inCl_done g _ _ _ h.2 hdn
    rw [hk] at this; cases this
  ·exact q

theorem atN_at {N : Notes} {f : Nat → AV → SpecN N} {rs : List AV} {i : Nat} {e : AV} (h : rs[i]? = some e) : atN (rs.mapIdx f) i = f i e := by
 rw [atN, List.getD_eq_getElem?_getD, List.getElem?_mapIdx, h]; rfl
theorem atN_one {N : Notes} {f : Nat → AV → SpecN N} {rs : List AV} {i : Nat} {e : AV} (h : rs[i]? = some e) : atN (rs.mapIdx f) i = f i e := atN_at h
structure GInv (l : List Oper) (s : AS) (a : Act) (k : Nat) (sk : AS) (rs : List AV) (A : (Nat → Value) → Act) : Prop where
 y : sk.y = s.y
 len : rs.length = k
 dfr : ∀ x, (A x).defers = a.defers
 size : ∀ x, sk.t.length = (A x).tmps.size
 val : ∀ x (t : Nat) c v, sk.t[t]? = some c → (A x).tmps[t]? = some v → (s.t[t]? = some c ∧ a.tmps[t]? = some v) ∨ ∃ i, i < k ∧ (∃ oi, l[i]? = some oi ∧ oi.dst = some t) ∧ rs[i]? = some c ∧ v = x i

theorem GInv.step {l : List Oper} {s : AS} {a : Act} {k : Nat} {sk : AS} {rs : List AV} {A : (Nat → Value) → Act} (h : GInv l s a k sk rs A) {oo : Oper} (ho : l[k]? = some oo) (r : AV) (o' : List (Option AObj)) :
  GInv l s a (k + 1) (sk.put oo.dst r o') (rs ++ [r]) (fun x => (A x).put oo.dst (x k)) := by
 refine ⟨h.y, by simp [h.len], fun x => ?_, fun x => ?_, fun x t c v h1 h2 => ?_⟩
 ·have := h.dfr x; cases oo.dst <;> simpa [Act.put] using this
 ·have := h.size x; cases oo.dst <;> simpa [Act.put, AS.put] using this
 ·have old : sk.t[t]? = some c → (A x).tmps[t]? = some v → (s.t[t]? = some c ∧ a.tmps[t]? = some v) ∨ ∃ i, i < k + 1 ∧ (∃ oi, l[i]? = some oi ∧ oi.dst = some t) ∧ (rs ++ [r])[i]? = some c ∧ v = x i := by
   intro h1 h2
   rcases h.val x t c v h1 h2 with h3 | ⟨i, q1, q2, q3, q4⟩
   ·exact .inl h3
   ·exact .inr ⟨i, by omega, q2, by rw [List.getElem?_append_left (by rw [h.len]; exact q1)]; exact q3, q4⟩
  cases hd : oo.dst with
  | none => rw [hd] at h1 h2; exact old h1 h2
  | some d =>
   rw [hd] at h1 h2
   simp only [AS.put, Act.put] at h1 h2
   by_cases hdt : d = t
   ·subst hdt
    have hlt := (List.getElem?_eq_some_iff.1 h1).1
    simp only [List.length_set] at hlt
    rw [List.getElem?_set_self hlt] at h1
    rw [Array.getElem?_setIfInBounds_self_of_lt (by have := h.size x; omega)] at h2
    cases h1; cases h2
    exact .inr ⟨k, by omega, ⟨oo, ho, hd⟩, by rw [List.getElem?_append_right (by rw [h.len]; exact Nat.le_refl _), h.len, Nat.sub_self]; rfl, rfl⟩
   ·rw [List.getElem?_set_ne hdt] at h1
    rw [Array.getElem?_setIfInBounds_ne hdt] at h2
    exact old h1 h2

theorem ghost_pair {l : List Oper} (hB : relGB l.toArray = true) {i j : Nat} {oi oj : Oper} (hij : i < j) (hi : l[i]? = some oi) (hj : l[j]? = some oj) : depB l.toArray j i = true ∨ ∀ d, oi.dst = some d → d ∉ oj.looksAt l.toArray := by
 simp only [relGB, Bool.and_eq_true, List.all_eq_true, List.mem_range, List.size_toArray] at hB
 have hjn := (List.getElem?_eq_some_iff.1 hj).1
 have := (hB.2 j hjn).1 i hij
 simp only [pairG, List.getElem?_toArray, hi, hj, Bool.and_eq_true, Bool.or_eq_true, Bool.not_eq_true'] at this
 rcases this.1.1.1 with h | h
 ·exact .inl h
 ·refine .inr (fun e he => ?_)
  rw [he] at h
  simpa using h
theorem riseB_lt : ∀ {l : List Nat}, riseB l = true → ∀ (i j x y : Nat), i < j → l[i]? = some x → l[j]? = some y → x < y
 | [], _, i, j, x, y, _, h, _ => by simp at h
 | [a], _, i, j, x, y, hij, h1, h2 => by
  have := (List.getElem?_eq_some_iff.1 h2).1
  simp at this; omega
 | a :: b :: l, h, i, j, x, y, hij, h1, h2 => by
  simp only [riseB, Bool.and_eq_true, decide_eq_true_eq] at h
  match i, j, h1, h2 with
  | 0, 1, h1, h2 => cases h1; cases h2; exact h.1
  | 0, j + 2, h1, h2 =>
   cases h1
   have := riseB_lt h.2 0 (j + 1) b y (by omega) rfl (by simpa using h2)
   omega
  | i + 1, j + 1, h1, h2 => exact riseB_lt h.2 i j x y (by omega) (by simpa using h1) (by simpa using h2)
theorem riseB_nodup {l : List Nat} (h : riseB l = true) : l.Nodup := by
 refine List.pairwise_iff_getElem.2 (fun i j hi hj hij => ?_)
 have := riseB_lt h i j _ _ hij (List.getElem?_eq_getElem hi) (List.getElem?_eq_getElem hj)
 omega

theorem tr_len {l : List Oper} {es : List Nat} {fs : List (Nat × Nat)} (hsz : ∀ e, e ∈ es → e < l.length) (hrise : riseB es = true) : ∀ (rest : List Oper) (k m : Nat) (s : AS) (hist : List (List (Option AObj))) (rs : List AV) (os : List (List (Option AObj))) (sf : AS), l.drop k = rest → k ≤ l.length → TrG P l es fs rest k s hist rs os sf → m ≤ es.length →
  (∀ m' e, es[m']? = some e → (e < k ↔ m' < m)) → os.length + m = es.length
 | [], k, m, s, hist, rs, os, sf, hl, hk, ht, hm, hme => by
  obtain ⟨rfl, rfl, rfl⟩ := ht
  have hkl : k = l.length := by have := congrArg List.length hl; simp at this; omega
  rcases Nat.lt_or_ge m es.length with q | q
  ·have he : es[m]? = some es[m] := List.getElem?_eq_getElem q
   have := (hme m _ he).1 (by rw [hkl]; exact hsz _ (List.getElem_mem q))
   omega
  ·simp; omega
 | oo :: rest, k, m, s, hist, rs, os, sf, hl, hk, ht, hm, hme => by
  have hlt : k < l.length := by have := congrArg List.length hl; simp at this; omega
  have hl' : l.drop (k + 1) = rest := by have := congrArg List.tail hl; simpa using this
  obtain ⟨r, rs', rfl, ht⟩ := ht
  rcases ht with ⟨he, hg, o', os', rfl, hd, htr⟩ | ⟨he, hstep, htr⟩
  ·have hkm : k ∈ es := by simpa using he
   obtain ⟨mk, hmk⟩ := List.getElem?_of_mem hkm
   have hmke : mk = m := by
    have h1 : ¬ mk < m := fun hh => by have := (hme mk k hmk).2 hh; omega
    rcases Nat.lt_or_ge m mk with q | q
    ·have hlt2 : m < es.length := by have := (List.getElem?_eq_some_iff.1 hmk).1; omega
     have hem : es[m]? = some es[m] := List.getElem?_eq_getElem hlt2
     have hlt3 := riseB_lt hrise m mk _ _ q hem hmk
     have := (hme m _ hem).1 hlt3
     omega
    ·omega
   subst hmke
   have hmlt := (List.getElem?_eq_some_iff.1 hmk).1
   have := tr_len hsz hrise rest (k + 1) (mk + 1) _ _ _ _ _ hl' hlt htr (by omega) (fun m' e h => by
    by_cases hek : e = k
    ·subst hek
     have : m' = mk := (List.getElem?_inj (List.getElem?_eq_some_iff.1 h).1 (riseB_nodup hrise)).1 (h.trans hmk.symm)
     omega
    ·have := hme m' e h
     have hne : m' ≠ mk := fun hh => by subst hh; rw [hmk] at h; cases h; exact hek rfl
     omega)
   simp only [List.length_cons]; omega
  ·exact tr_len hsz hrise rest (k + 1) m _ _ _ _ _ hl' hlt htr hm (fun m' e h => by
    have hne : e ≠ k := fun hh => by
     subst hh
     have := List.mem_of_getElem? h
     simp [this] at he
    rw [← hme m' e h]; omega)

theorem adrawG_good {f : Fr} {fs : List (Nat × Nat)} (hB : ghostB l.toArray es fs = true) {s sf : AS} {a : Act} {w0 : World} {rs : List AV} {os : List (List (Option AObj))} {R : Exit → Act → World → Prop} {g0 : GG D nu s.o w0 l es (fun c => (s.o :: os).getD c [])} (hs : RS f D nu s a w0)
  (hR : ∀ a' w' nu', Mono nu s.o w0 nu' sf.o w' → sf.y = s.y → RS f D nu' sf a' w' → R .normal a' w') :
  ∀ (rest : List Oper) (k m : Nat) (sk : AS) (hist : List (List (Option AObj))) (rs1 rs2 : List AV) (os2 : List (List (Option AObj))) (A : (Nat → Value) → Act), l.drop k = rest → TrG P l es fs rest k sk hist rs2 os2 sf → (s.o :: os).take m = hist → rs = rs1 ++ rs2 → GInv l s a k sk rs1 A → (s.o :: os).drop m = sk.o :: os2 →
   m ≤ es.length → (∀ m' e, es[m']? = some e → (e < k ↔ m' < m)) → k ≤ l.length →
   oblG (N := ghostN D nu s.o w0 l es (fun c => (s.o :: os).getD c [])) P l.toArray (rs.mapIdx (fun k r => specG D nu s.o w0 l es (fun c => (s.o :: os).getD c []) k r)) g0 (R .normal) rest k A
 | [], k, m, sk, hist, rs1, rs2, os2, A, hl, ht, hhi, hrs, hI, hO, hml, hme, hk => by
  obtain ⟨rfl, rfl, rfl⟩ := ht
  intro x g hE hD
  have hkl : k = l.length := by have := congrArg List.length hl; simp at this; omega
  have hspec : ∀ i r, rs1[i]? = some r → (specG D nu s.o w0 l es (fun c => (s.o :: os).getD c []) i r).p (x i) g := fun i r hr => by
   have hik : i < k := by rw [← hI.len]; exact (List.getElem?_eq_some_iff.1 hr).1
   have := hD i hik
   rw [hrs, List.append_nil, atN_one hr] at this
   exact this
  have hdone : ∀ i, i < k → g.done i = true := fun i hi => by
   have hlt : i < rs1.length := by rw [hI.len]; exact hi
   exact (hspec i _ (List.getElem?_eq_getElem hlt)).2
  have hsz : ∀ e, e ∈ es → e < l.length := by
   simp only [ghostB, Bool.and_eq_true, List.all_eq_true, decide_eq_true_eq, List.size_toArray] at hB
   exact hB.1.2
  have hm : m = es.length := by
   rcases Nat.lt_or_ge m es.length with q | q
   ·have he : es[m]? = some es[m] := List.getElem?_eq_getElem q
    have := (hme m _ he).1 (by rw [hkl]; exact hsz _ (List.getElem_mem q))
    omega
   ·omega
  have hc : g.c = m := by
   have h1 := g.le
   rcases Nat.eq_zero_or_pos m with q | q
   ·omega
   ·have hlt : m - 1 < es.length := by omega
    have he : es[m - 1]? = some es[m - 1] := List.getElem?_eq_getElem hlt
    have := (g.ef _ _ he).1 (hdone _ (by rw [hkl]; exact hsz _ (List.getElem_mem hlt)))
    omega
  have hOm : (s.o :: os).getD m [] = sf.o := by
   have := congrArg (fun l => l[0]?) hO
   simp only [List.getElem?_drop, Nat.add_zero, List.getElem?_cons_zero] at this
   rw [List.getD_eq_getElem?_getD, this]; rfl
  have hro := g.ro
  have hmo := g.mono
  simp only [hc, hOm] at hro hmo
  refine hR (A x) g.w g.nu hmo hI.y ⟨hro, ⟨hI.size x, fun t c v h1 h2 => ?_⟩, by rw [hI.dfr x]; exact hs.dfr.mono hs.ro hmo⟩
  rcases hI.val x t c v h1 h2 with ⟨h3, h4⟩ | ⟨i, q1, q2, q3, q4⟩
  ·exact (hs.tm.at' t c v h3 h4).mono hmo (fun _ _ h => h)
  ·have := (hspec i c q3).1
   simp only [hc, hOm] at this
   rw [q4]; exact this
 | oo :: rest, k, m, sk, hist, rs1, rs2, os2, A, hl, ht, hhi, hrs, hI, hO, hml, hme, hk => by
  have hB' := hB
  simp only [ghostB, Bool.and_eq_true, List.all_eq_true, decide_eq_true_eq, List.size_toArray, List.mem_range, Bool.or_eq_true] at hB'
  obtain ⟨⟨⟨hrel, hrise⟩, hszs⟩, hfix⟩ := hB'
  have hlt : k < l.length := by have := congrArg List.length hl; simp at this; omega
  have hok : l[k]? = some oo := by have := congrArg (fun m => m[0]?) hl; simpa using this
  have hl' : l.drop (k + 1) = rest := by have := congrArg List.tail hl; simpa using this
  have hOm : (s.o :: os).getD m [] = sk.o := by
   have := congrArg (fun l => l[0]?) hO
   simp only [List.getElem?_drop, Nat.add_zero, List.getElem?_cons_zero] at this
   rw [List.getD_eq_getElem?_getD, this]; rfl
  obtain ⟨r, rs', rfl, ht⟩ := ht
  have hrs' : rs = (rs1 ++ [r]) ++ rs' := by rw [hrs]; simp
  have hspecK : atN (rs.mapIdx (fun k r => specG D nu s.o w0 l es (fun c => (s.o :: os).getD c []) k r)) k = specG D nu s.o w0 l es (fun c => (s.o :: os).getD c []) k r := by
   rw [hrs]; exact atN_at (by rw [List.getElem?_append_right (by rw [hI.len]; exact Nat.le_refl _), hI.len, Nat.sub_self]; rfl)
  have hspec : ∀ (x : Nat → Value) (g : GG D nu s.o w0 l es (fun c => (s.o :: os).getD c [])) i rr, (atN (rs.mapIdx (fun k r => specG D nu s.o w0 l es (fun c => (s.o :: os).getD c []) k r)) i).p (x i) g → rs1[i]? = some rr → RA D g.nu ((s.o :: os).getD g.c []) g.w rr (x i) ∧ g.done i = true := fun x g i rr h hr => by
   rw [hrs, atN_at (by rw [List.getElem?_append_left (List.getElem?_eq_some_iff.1 hr).1]; exact hr)] at h
   exact h
  have hdep : ∀ i, depB l.toArray k i = true → i < k := fun i hi => by
   simp only [relGB, Bool.and_eq_true, List.all_eq_true, List.mem_range, List.size_toArray] at hrel
   rcases Nat.lt_trichotomy i k with h | h | h
   ·exact h
   ·subst h
    have := (hrel.2 i hlt).2.1
    rw [hi] at this; cases this
   ·exfalso
    simp only [depB, List.getElem?_toArray, hok, Array.any_eq_true', Bool.and_eq_true, beq_iff_eq] at hi
    obtain ⟨e, he, hb, rfl⟩ := hi
    have hfar := (hrel.2 k hlt).2.2
    simp only [farB, List.getElem?_toArray, hok, Array.all_eq_true_iff_forall_mem] at hfar
    have hel : e.on < l.length := by simpa using hfar e he
    have := (hrel.2 e.on hel).1 k h
    simp only [pairG, List.getElem?_toArray, hok, List.getElem?_eq_getElem hel, Bool.and_eq_true, Bool.not_eq_true'] at this
    have h2 := this.1.1.2
    simp only [depB, List.getElem?_toArray, hok] at h2
    have : oo.after.any (fun e_1 => Region.binds .any e_1 && e_1.on == e.on) = true := by
     simp only [Array.any_eq_true', Bool.and_eq_true, beq_iff_eq]
     exact ⟨e, he, hb, rfl⟩
    rw [this] at h2; cases h2
  have hdoneD : ∀ (x : Nat → Value) (g : GG D nu s.o w0 l es (fun c => (s.o :: os).getD c [])), (∀ i, depB l.toArray k i = true → (atN (rs.mapIdx (fun k r => specG D nu s.o w0 l es (fun c => (s.o :: os).getD c []) k r)) i).p (x i) g) → ∀ i, depB l.toArray k i = true → g.done i = true := fun x g hD i hi => by
   have hlt : i < rs1.length := by rw [hI.len]; exact hdep i hi
   exact (hspec x g i _ (hD i hi) (List.getElem?_eq_getElem hlt)).2
  -- what the operation looks at reads as told
  have hlook : ∀ (x : Nat → Value) (g : GG D nu s.o w0 l es (fun c => (s.o :: os).getD c [])), (∀ i, depB l.toArray k i = true → (atN (rs.mapIdx (fun k r => specG D nu s.o w0 l es (fun c => (s.o :: os).getD c []) k r)) i).p (x i) g) → ∀ (t : Nat) c v, t ∈ oo.looksAt l.toArray → sk.t[t]? = some c → (A x).tmps[t]? = some v → RA D g.nu ((s.o :: os).getD g.c []) g.w c v := by
   intro x g hD t c v ht h1 h2
   rcases hI.val x t c v h1 h2 with ⟨h3, h4⟩ | ⟨i, q1, ⟨oi, q2, q5⟩, q3, q4⟩
   ·exact (hs.tm.at' t c v h3 h4).mono g.mono (fun _ _ h => h)
   ·rcases ghost_pair hrel q1 q2 hok with h5 | h5
    ·have := (hspec x g i c (hD i h5) q3).1
     rw [q4]; exact this
    ·exact absurd ht (h5 t q5)
  have hevs : ∀ (x : Nat → Value) (g : GG D nu s.o w0 l es (fun c => (s.o :: os).getD c [])), (∀ i, depB l.toArray k i = true → (atN (rs.mapIdx (fun k r => specG D nu s.o w0 l es (fun c => (s.o :: os).getD c []) k r)) i).p (x i) g) → Evs D g.nu ((s.o :: os).getD g.c []) g.w sk.ev (A x).eval oo.op := by
   intro x g hD y hy
   cases y with
   | tmp t =>
    simp only [AS.ev, Act.eval]
    rcases Nat.lt_or_ge t sk.t.length with hlt | hge
    ·have e1 : sk.t[t]? = some sk.t[t] := List.getElem?_eq_getElem hlt
     have hlt' : t < (A x).tmps.size := by rw [← hI.size x]; exact hlt
     have hx : (A x).tmps[t]? = some (A x).tmps[t] := Array.getElem?_eq_getElem hlt'
     rw [getD_some e1]
     have : (A x).tmps.getD t Go.undef = (A x).tmps[t] := by simp [Array.getD, hlt']
     rw [this]
     exact hlook x g hD t _ _ (List.mem_append_left _ (List.mem_filterMap.2 ⟨.tmp t, hy, rfl⟩)) e1 hx
    ·have e0 : sk.t.getD t .undef = .undef := by rw [List.getD_eq_getElem?_getD, List.getElem?_eq_none hge]; rfl
     rw [e0]
     exact .undef _
   | const v => exact .v v
   | global gi => exact (glob_ra hs.ro sk gi).mono g.mono (fun _ _ h => h)
   | func f => exact .fn f [] [] #[] #[] rfl rfl (fun i c x h => by simp at h) (fun i c x h => by simp at h)
  have hcont : ∀ (x : Nat → Value), es.contains k = false → ∀ m' e, es[m']? = some e → (e < k + 1 ↔ m' < m) := fun _ he m' e h => by
   have hne : e ≠ k := fun hh => by
    subst hh
    have := List.mem_of_getElem? h
    simp [this] at he
   rw [← hme m' e h]; omega
  rcases ht with ⟨he, hg, o', os', rfl, hd, htr⟩ | ⟨he, hstep, htr⟩
  ·-- it turns memory
   have hkm : k ∈ es := by simpa using he
   obtain ⟨mk, hmk⟩ := List.getElem?_of_mem hkm
   have hmke : mk = m := by
    have h1 : ¬ mk < m := fun hh => by have := (hme mk k hmk).2 hh; omega
    rcases Nat.lt_or_ge m mk with q | q
    ·have hlt2 : m < es.length := by have := (List.getElem?_eq_some_iff.1 hmk).1; omega
     have hem : es[m]? = some es[m] := List.getElem?_eq_getElem hlt2
     have hlt3 := riseB_lt hrise m mk _ _ q hem hmk
     have := (hme m _ hem).1 hlt3
     omega
    ·omega
   subst hmke
   have hOm1 : (s.o :: os).getD (mk + 1) [] = o' := by
    have h1 := congrArg (fun (l : List (List (Option AObj))) => l[1]?) hO
    simp only [List.getElem?_drop] at h1
    rw [List.getD_eq_getElem?_getD, h1]; rfl
   refine ⟨fun x g hE hD hp => ?_, ?_⟩
   ·have hdd := hdoneD x g hD
    have hfx : fixB l.toArray es k = true := by
     rcases hfix k hlt with ((h | h) | h) | h
     ·have := h.2; simp [hkm] at this
     ·exact h
     ·exfalso
      simp only [floB] at h
      split at h
      ·simp only [Bool.and_eq_true, List.all_eq_true, Bool.or_eq_true, decide_eq_true_eq] at h
       rcases h.2 k hkm with q | q
       ·omega
       ·simp at q
      ·cases h
     ·exfalso
      simp only [latB, Bool.and_eq_true] at h
      have := h.1.1.1; simp [hkm] at this
    have hc : g.c = mk := g.at_place hfx hdd hp hme hml
    have hev := hevs x g hD
    have hro := g.ro
    simp only [hc, hOm] at hev hro
    refine .inl ⟨by simp [Region.wanted, hg], ?_⟩
    rw [hspecK]
    have hgo : ∀ (v : Value) (w' : World) (nu' : Nat → Nat → Value), Mono g.nu sk.o g.w nu' o' w' → RO D nu' o' w' → RA D nu' o' w' r v →
      ∃ g' : GG D nu s.o w0 l es (fun c => (s.o :: os).getD c []), (ghostN D nu s.o w0 l es (fun c => (s.o :: os).getD c [])).wd g' = w' ∧ (ghostN D nu s.o w0 l es (fun c => (s.o :: os).getD c [])).R g g' ∧ (∀ i, i ≠ k → (ghostN D nu s.o w0 l es (fun c => (s.o :: os).getD c [])).pre i g → (ghostN D nu s.o w0 l es (fun c => (s.o :: os).getD c [])).pre i g') ∧ (specG D nu s.o w0 l es (fun c => (s.o :: os).getD c []) k r).p v g' := by
     intro v w' nu' m1 m2 m3
     have hm' : Mono g.nu ((s.o :: os).getD g.c []) g.w nu' ((s.o :: os).getD (g.c + 1) []) w' := by rw [hc, hOm, hOm1]; exact m1
     have hr' : RO D nu' ((s.o :: os).getD (g.c + 1) []) w' := by rw [hc, hOm1]; exact m2
     have hek : es[g.c]? = some k := by rw [hc]; exact hmk
     have hR2 := g.eff_R k w' nu' hm' hr' hdd hek (riseB_nodup hrise)
     refine ⟨g.eff k w' nu' hm' hr' hdd hek (riseB_nodup hrise), rfl, hR2.1, hR2.2, ?_, ?_⟩
     ·show RA D nu' ((s.o :: os).getD (g.c + 1) []) w' r v
      rw [hc, hOm1]; exact m3
     ·show (if k = k then true else g.done k) = true
      simp
    rcases adoE_good (P := P) (rho := (A x).eval) hro hev hd with ⟨v, w', nu', h1, m1, m2, m3⟩ | ⟨gf, vargs, h1, h2⟩
    ·rcases h1 with h1 | ⟨h1, rfl⟩
     ·have e1 : (execOp (A x).eval oo).run P ((ghostN D nu s.o w0 l es (fun c => (s.o :: os).getD c [])).wd g) = .ok (.value v) w' := h1
      rw [e1]; exact hgo v w' nu' m1 m2 m3
     ·have e1 : (execOp (A x).eval oo).run P ((ghostN D nu s.o w0 l es (fun c => (s.o :: os).getD c [])).wd g) = .ok .skip w' := h1
      rw [e1]; exact hgo _ w' nu' m1 m2 m3
    ·have e1 : (execOp (A x).eval oo).run P ((ghostN D nu s.o w0 l es (fun c => (s.o :: os).getD c [])).wd g) = .ok (.enter gf vargs) g.w := h1
     rw [e1]
     refine h2.mono ?_
     rintro e w' ⟨v, nu', rfl, m1, m2, m3⟩
     obtain ⟨g', k1, k2, k3, k4⟩ := hgo v w' nu' m1 m2 m3
     exact ⟨v, g', rfl, k1, k2, k3, k4⟩
   ·refine adrawG_good hB hs hR rest (k + 1) (mk + 1) (sk.put oo.dst r o') (hist ++ [sk.o]) (rs1 ++ [r]) rs' os' _ hl' htr (by rw [List.take_succ_eq_append_getElem (by have := congrArg List.length hO; simp at this ⊢; omega), hhi]; congr 1; have := hOm; rw [List.getD_eq_getElem?_getD, List.getElem?_eq_getElem (by have := congrArg List.length hO; simp at this ⊢; omega)] at this; simpa using this) hrs' (hI.step hok r o') ?_ ((List.getElem?_eq_some_iff.1 hmk).1) (fun m' e h => ?_) hlt
    ·have := congrArg List.tail hO
     rw [List.tail_drop] at this
     exact this
    ·by_cases hek : e = k
     ·subst hek
      have : m' = mk := (List.getElem?_inj (List.getElem?_eq_some_iff.1 h).1 (riseB_nodup hrise)).1 (h.trans hmk.symm)
      omega
     ·have := hme m' e h
      have hne : m' ≠ mk := fun hh => by subst hh; rw [hmk] at h; cases h; exact hek rfl
      omega
  ·refine ⟨fun x g hE hD hp => ?_, ?_⟩
   ·have hdd := hdoneD x g hD
    rw [hspecK]
    have hnext : ∀ (v : Value) (w' : World), RA D g.nu ((s.o :: os).getD g.c []) w' r v → Below g.w.heap.size g.w w' →
      ∃ g' : GG D nu s.o w0 l es (fun c => (s.o :: os).getD c []), (ghostN D nu s.o w0 l es (fun c => (s.o :: os).getD c [])).wd g' = w' ∧ (ghostN D nu s.o w0 l es (fun c => (s.o :: os).getD c [])).R g g' ∧ (∀ i, i ≠ k → (ghostN D nu s.o w0 l es (fun c => (s.o :: os).getD c [])).pre i g → (ghostN D nu s.o w0 l es (fun c => (s.o :: os).getD c [])).pre i g') ∧ (specG D nu s.o w0 l es (fun c => (s.o :: os).getD c []) k r).p v g' := by
     intro v w' hr hb
     have hR2 := g.next_R k w' hb hdd he
     refine ⟨g.next k w' hb hdd he, rfl, hR2.1, hR2.2, hr, ?_⟩
     show (if k = k then true else g.done k) = true
     simp
    have hyv : ∀ j want, oo.guard = some (j, want) → ∀ gg, gval l sk j = some gg → yielded l.toArray (A x).tmps j = gg := fun j want hg gg hgv =>
     gval_good (s := ⟨sk.t, (s.o :: os).getD g.c [], sk.y⟩) (D := D) (nu := g.nu) (w := g.w) (fun d c v hd h1 h2 => by
      refine hlook x g hD d c v ?_ h1 h2
      obtain ⟨og, q1, q2⟩ := hd
      refine List.mem_append_right _ ?_
      simp only [hg, List.getElem?_toArray, q1, Option.bind_some, q2]
      simp) (hI.size x) (show gval l ⟨sk.t, _, sk.y⟩ j = some gg from hgv)
    rcases hstep with ⟨hw, hd, hfl, hlat⟩ | ⟨_, _, rfl, j, want, gg, hg, hgv, hno⟩
    ·have hwant : Region.wanted oo (yielded l.toArray (A x).tmps) = true := by
      rcases hw with hg | ⟨j, want, b, hg, hgv, hb⟩
      ·simp [Region.wanted, hg]
      ·simp only [Region.wanted, hg, hyv j want hg _ hgv]; simpa using hb
     refine .inl ⟨hwant, ?_⟩
     have hd' : ADoS P oo.op ⟨sk.t, (s.o :: os).getD g.c [], sk.y⟩ (fun r' => r' = r) := by
      rcases hfix k hlt with ((h | h) | h) | h
      ·rw [show l.toArray[k]? = some oo by simpa using hok] at h
       exact adoS_free (by simpa using h.1) (show ADoS P oo.op ⟨sk.t, sk.o, sk.y⟩ (fun r' => r' = r) from hd)
      ·have hc : g.c = m := g.at_place h hdd hp hme hml
       rw [hc, hOm]; exact hd
      ·have hlo : ∃ lo, floF fs k = some lo := by
        simp only [floB] at h
        split at h
        ·exact ⟨_, ‹_›⟩
        ·cases h
       obtain ⟨lo, hlo⟩ := hlo
       obtain ⟨c1, c2⟩ := g.at_float h hlo hdd hp hme
       rcases Nat.eq_or_lt_of_le c2 with hc | hc
       ·rw [hc, hOm]; exact hd
       ·have hgl : g.c < (s.o :: os).length := by have := congrArg List.length hO; simp at this ⊢; omega
        refine hfl lo hlo _ ?_
        rw [← hhi, List.getD_eq_getElem?_getD, List.getElem?_eq_getElem hgl]
        refine List.mem_drop_iff_getElem.2 ⟨g.c - lo, by simp at hgl ⊢; omega, ?_⟩
        rw [List.getElem_take]
        simp only [Option.getD_some]
        congr 1
        omega
      ·have hc := g.at_late h hdd hme hml
       simp only [latB, Bool.and_eq_true] at h
       rcases Nat.eq_or_lt_of_le hc with hc | hc
       ·rw [← hc, hOm]; exact hd
       ·have hle := g.le
        refine hlat (by simpa using h.1.1.2) h.1.2 _ ?_
        have hln := tr_len hszs hrise rest (k + 1) m _ _ _ _ _ hl' (by omega) htr hml (hcont (fun _ => Go.undef) he)
        have e1 := congrArg (fun (l : List (List (Option AObj))) => l[g.c - m]?) hO
        obtain ⟨d, hd1⟩ : ∃ d, g.c - m = d + 1 := ⟨g.c - m - 1, by omega⟩
        simp only [List.getElem?_drop, show m + (g.c - m) = g.c by omega] at e1
        rw [hd1, List.getElem?_cons_succ, List.getElem?_eq_getElem (l := os2) (by omega)] at e1
        rw [List.getD_eq_getElem?_getD, e1]
        exact List.getElem_mem _
     obtain ⟨r', rfl, hout⟩ := adoS_good (P := P) (s := ⟨sk.t, (s.o :: os).getD g.c [], sk.y⟩) (rho := (A x).eval) g.ro (hevs x g hD) hd'
     have e0 : (execOp (A x).eval oo).run P ((ghostN D nu s.o w0 l es (fun c => (s.o :: os).getD c [])).wd g) = (execOp (A x).eval oo).run P g.w := rfl
     rw [e0]
     generalize (execOp (A x).eval oo).run P g.w = res at hout
     cases res with
     | halt _ _ => exact hout.elim
     | ok n w' =>
      cases n <;> first | exact hout.elim | skip
      case value u => exact hnext u w' hout.1.2 hout.2
      case skip => exact hnext _ w' hout.1.2 hout.2
      case enter gf vargs =>
       refine Calls.mono hout ?_
       rintro e w'' ⟨v, rfl, hv, hb⟩
       obtain ⟨g', k1, k2, k3, k4⟩ := hnext v w'' hv.2 hb
       exact ⟨v, g', rfl, k1, k2, k3, k4⟩
    ·refine .inr ⟨?_, ?_⟩
     ·simp only [Region.wanted, hg, hyv j want hg _ hgv]
      rcases hno with rfl | ⟨b, rfl, hb⟩
      ·rfl
      ·simpa using hb
     ·obtain ⟨g', k1, k2, k3, k4⟩ := hnext Go.undef g.w (.v _) (.refl _ _)
      exact ⟨g', k1, k2, k3, k4⟩
   ·have hO' : (s.o :: os).drop m = (sk.put oo.dst r s.o).o :: os2 → True := fun _ => trivial
    refine adrawG_good hB hs hR rest (k + 1) m (sk.put oo.dst r sk.o) hist (rs1 ++ [r]) rs' os2 _ hl' ?_ hhi hrs' (hI.step hok r sk.o) hO hml (hcont (fun _ => Go.undef) he) hlt
    exact htr

theorem awp_drawG {n0 id : Nat} {s : AS} {l : List Oper} {Q : AExit → AS → Prop} (es : List Nat) (fs : List (Nat × Nat)) (hB : ghostB l.toArray es fs = true) (hC : calmB l.toArray = true) (h : ADrawG P l es fs l 0 s [] none (Q .normal)) : AWp P n0 (.region id l.toArray true) s Q := by
 refine .inr (fun f m D nu a w hZr hn hm hs hmx R hO hR => ?_)
 obtain ⟨rs, os, sf, htr, _, hq⟩ := adrawG_tr l 0 s [] h
 have hs' := hs.drew
 have hrel : relGB l.toArray = true := by
  simp only [ghostB, Bool.and_eq_true] at hB
  exact hB.1.1.1
 let g0 : GG D nu s.o w.drew l es (fun c => (s.o :: os).getD c []) := ⟨w.drew, nu, fun _ => false, 0, hs'.ro, .refl _ _ _, (fun _ _ h => by cases h), (fun _ _ _ => by simp), Nat.zero_le _⟩
 have hobl := adrawG_good (P := P) (R := R) (rs := rs) (g0 := g0) hB hs' (fun a' w' nu' h1 hy h2 => hR .normal D f.Z sf a' w' nu' (by rw [hy]; exact m.own hm hs.ro ((mono_below (below_drew w)).trans h1) h2.ro) h2 hq) l 0 0 s [] [] rs os (fun _ => a) (by simp) htr (by simp) (by simp) ⟨rfl, rfl, fun _ => rfl, fun _ => hs.tm.len, fun x t c v h1 h2 => .inl ⟨h1, h2⟩⟩ (by simp) (Nat.zero_le _) (fun m' e _ => by simp) (Nat.zero_le _)
 exact wpIn_any hmx hC hO (any_region_ghost (N := ghostN D nu s.o w.drew l es (fun c => (s.o :: os).getD c [])) _ hrel g0 rfl (fun _ => rfl) hobl)
theorem adrawG_k {all rest : List Oper} {es : List Nat} {fs : List (Nat × Nat)} {oo : Oper} {k : Nat} {s : AS} {hist : List (List (Option AObj))} {pn : Option (List (Option AObj) → Prop)} {Q : AS → Prop} (he : (es.contains k || (floF fs k).isSome || latF fs k) = false) (h : ∀ K : AS → Prop, (∀ s', ADrawG P all es fs rest (k + 1) s' hist pn Q → K s') → AStepS P all oo s K) : ADrawG P all es fs (oo :: rest) k s hist pn Q := by
 simp only [Bool.or_eq_false_iff] at he
 simp only [ADrawG, he.1.1, Bool.false_eq_true, if_false]
 cases hf : floF fs k with
 | some lo => rw [hf] at he; simp at he
 | none => rw [he.2]; exact h _ (fun _ h => h)
theorem adrawG_e {all rest : List Oper} {es : List Nat} {fs : List (Nat × Nat)} {dst : Option Tmp} {op : Op} {ty : TypeId} {pos : String} {aft : Array Edge} {k : Nat} {s : AS} {hist : List (List (Option AObj))} {Q : AS → Prop} (he : es.contains k = true) (h : ∀ K : AS → Prop, (∀ s', ADrawG P all es fs rest (k + 1) s' (hist ++ [s.o]) none Q → K s') → ADoE P op s (fun r o' => K (s.put dst r o'))) : ADrawG P all es fs (⟨dst, op, ty, pos, aft, none⟩ :: rest) k s hist none Q := by
 simp only [ADrawG, he, if_true, pnd, true_and]
 exact h _ (fun _ h => h)
theorem adrawG_eL {all rest : List Oper} {es : List Nat} {fs : List (Nat × Nat)} {dst : Option Tmp} {op : Op} {ty : TypeId} {pos : String} {aft : Array Edge} {k : Nat} {s : AS} {hist : List (List (Option AObj))} {p : List (Option AObj) → Prop} {Q : AS → Prop} (he : es.contains k = true) (h : ∀ K : AS → Prop, (∀ s', ADrawG P all es fs rest (k + 1) s' (hist ++ [s.o]) (some p) Q → K s') → ADoE P op s (fun r o' => p o' ∧ K (s.put dst r o'))) : ADrawG P all es fs (⟨dst, op, ty, pos, aft, none⟩ :: rest) k s hist (some p) Q := by
 simp only [ADrawG, he, if_true, pnd]
 exact h _ (fun _ h => h)
theorem adrawG_l {all rest : List Oper} {es : List Nat} {fs : List (Nat × Nat)} {dst : Option Tmp} {op : Op} {ty : TypeId} {pos : String} {aft : Array Edge} {k : Nat} {s : AS} {hist : List (List (Option AObj))} {pn : Option (List (Option AObj) → Prop)} {Q : AS → Prop} (he : (!es.contains k && (floF fs k).isNone && latF fs k) = true) (h : ADoS P op s (fun r => ADrawG P all es fs rest (k + 1) (s.put dst r s.o) hist (some fun o' => pnd pn o' ∧ ADoS P op ⟨s.t, o', s.y⟩ (fun r' => r' = r)) Q)) : ADrawG P all es fs (⟨dst, op, ty, pos, aft, none⟩ :: rest) k s hist pn Q := by
 simp only [Bool.and_eq_true, Bool.not_eq_true'] at he
 simp only [ADrawG, he.1.1, Bool.false_eq_true, if_false]
 cases hf : floF fs k with
 | some lo => rw [hf] at he; simp at he
 | none => rw [he.2]; exact ⟨trivial, h⟩
theorem adrawG_nil {all : List Oper} {es : List Nat} {fs : List (Nat × Nat)} {k : Nat} {s : AS} {hist : List (List (Option AObj))} {pn : Option (List (Option AObj) → Prop)} {Q : AS → Prop} (h : Q s) : ADrawG P all es fs [] k s hist pn Q := h
instance {all : List Oper} {es : List Nat} {fs : List (Nat × Nat)} {k : Nat} {s : AS} {hist : List (List (Option AObj))} {pn : Option (List (Option AObj) → Prop)} {Q : AS → Prop} : Stp (ADrawG P all es fs [] k s hist pn Q) (Q s) := ⟨adrawG_nil⟩
end
attribute [go_sem] pnd ADoE AFnE_fn List.forall_mem_cons List.not_mem_nil false_implies implies_true
end Go.Proofs.YtfflpdekojlnmaaDoor
