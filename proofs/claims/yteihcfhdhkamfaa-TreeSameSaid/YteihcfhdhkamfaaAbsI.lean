/- The abstract walk: calls by what they tell; operations one behind the other. -/
import Derived.Test.YteihcfhdhkamfaaAbsH
namespace Go.Proofs.Yteihcfhdhkamfaa
open Go.RowKit

/-! ### which objects a value names -/
mutual
def AV.wf (n : Nat) : AV → Bool
  | .undef => true
  | .v _ => true
  | .agg cs => wfL n cs
  | .tup vs => wfL n vs
  | .slc _ rows _ => wfR n rows
  | .vp cs => wfL n cs
  | .ptr id _ _ _ _ => decide (id < n)
  | .vec id _ => decide (id < n)
  | .fn _ f c => wfL n f && wfL n c
def wfL (n : Nat) : List AV → Bool
  | [] => true
  | a :: l => a.wf n && wfL n l
def wfR (n : Nat) : List (List AV) → Bool
  | [] => true
  | r :: l => wfL n r && wfR n l
end
theorem wfL_get {n : Nat} : ∀ {l : List AV}, wfL n l = true → ∀ {i : Nat} {c : AV}, l[i]? = some c → c.wf n = true
  | [], _, i, c, h => by simp at h
  | a :: l, h, 0, c, hi => by simp only [wfL, Bool.and_eq_true] at h; simp at hi; subst hi; exact h.1
  | a :: l, h, i + 1, c, hi => by simp only [wfL, Bool.and_eq_true] at h; exact wfL_get h.2 (by simpa using hi)
theorem wfR_get {n : Nat} : ∀ {l : List (List AV)}, wfR n l = true → ∀ {i : Nat} {r : List AV}, l[i]? = some r → wfL n r = true
  | [], _, i, c, h => by simp at h
  | a :: l, h, 0, c, hi => by simp only [wfR, Bool.and_eq_true] at h; simp at hi; subst hi; exact h.1
  | a :: l, h, i + 1, c, hi => by simp only [wfR, Bool.and_eq_true] at h; exact wfR_get h.2 (by simpa using hi)
theorem wfL_of {n : Nat} : ∀ {l : List AV}, (∀ c ∈ l, c.wf n = true) → wfL n l = true
  | [], _ => rfl
  | a :: l, h => by simp only [wfL, Bool.and_eq_true]; exact ⟨h a (by simp), wfL_of (fun c hc => h c (by simp [hc]))⟩
theorem wfR_of {n : Nat} : ∀ {l : List (List AV)}, (∀ r ∈ l, wfL n r = true) → wfR n l = true
  | [], _ => rfl
  | a :: l, h => by simp only [wfR, Bool.and_eq_true]; exact ⟨h a (by simp), wfR_of (fun c hc => h c (by simp [hc]))⟩
theorem wfR_map {α : Type} {n : Nat} (f : α → List AV) (h : ∀ x, wfL n (f x) = true) (l : List α) : wfR n (l.map f) = true := wfR_of (fun r hr => by
  obtain ⟨x, _, rfl⟩ := List.mem_map.1 hr; exact h x)

section
variable {D D' : Nat → Prop} {nu nu' : Nat → Nat → Value} {o o' : List (Option AObj)} {w : World} {P : Program}

/-- The same value, told where other objects are owned. -/
theorem RA.tr {n : Nat} (hF : ∀ b, Fz D nu o w b → Fz D' nu' o' w b) (hH : ∀ id len, id < n → hdrOk o id len → hdrOk o' id len ∧ nu' id len = nu id len) {a : AV} {x : Value} (hr : RA D nu o w a x) (ha : a.wf n = true) : RA D' nu' o' w a x := by
  induction hr with
  | undef x => exact .undef x
  | v x => exact .v x
  | agg cs xs h1 _ h3 ih => exact .agg cs xs h1 (fun i c x hc hx => ih i c x hc hx (wfL_get ha hc)) h3
  | tup cs xs h1 _ ih => exact .tup cs xs h1 (fun i c x hc hx => ih i c x hc hx (wfL_get ha hc))
  | slcNil z => exact .slcNil z
  | slcOdd z a => exact .slcOdd z a
  | slc z rows len b off cap f h1 h2 h3 h4 h5 h6 _ h8 ih =>
    exact .slc z rows len b off cap f h1 h2 h3 (fun hne => hF b (h4 hne)) h5 h6 (fun i j row c hi hj => ih i j row c hi hj (wfL_get (wfR_get ha hi) hj)) h8
  | vp cs b off f h1 h2 _ h4 ih => exact .vp cs b off f (hF b h1) h2 (fun j c hc => ih j c hc (wfL_get ha hc)) h4
  | ptr id len z row off b h1 h2 =>
    simp only [AV.wf, decide_eq_true_eq] at ha
    obtain ⟨h3, h4⟩ := hH id len ha h1
    exact .ptr id len z row off b h3 (by rw [h4]; exact h2)
  | vec id len h1 h2 =>
    simp only [AV.wf, decide_eq_true_eq] at ha
    obtain ⟨h3, h4⟩ := hH id len ha h1
    rw [← h4]
    exact .vec id len h3 (by rw [h4]; exact h2)
  | fn g first caps fi ca h1 h2 _ _ ih1 ih2 =>
    simp only [AV.wf, Bool.and_eq_true] at ha
    exact .fn g first caps fi ca h1 h2 (fun i c x hc hx => ih1 i c x hc hx (wfL_get ha.1 hc)) (fun i c x hc hx => ih2 i c x hc hx (wfL_get ha.2 hc))

theorem RAs.tr {n : Nat} (hF : ∀ b, Fz D nu o w b → Fz D' nu' o' w b) (hH : ∀ id len, id < n → hdrOk o id len → hdrOk o' id len ∧ nu' id len = nu id len) {cs : List AV} {xs : Array Value} (hr : RAs D nu o w cs xs) (ha : wfL n cs = true) : RAs D' nu' o' w cs xs :=
  ⟨hr.len, fun i c x h1 h2 => (hr.at' i c x h1 h2).tr hF hH (wfL_get ha h1)⟩
end

/-! ### calls -/
def callOk (P : Program) (f : FuncId) : Bool := match P.funcs[f]? with
  | some fn => fn.name != "runtime.NumGoroutine" && fn.body.isSome
  | none => false
theorem run_callFunc {P : Program} {f : FuncId} (h : callOk P f = true) (args : Array Value) (w : World) : (callFunc f args).run P w = .ok (.enter f args) w := by
  unfold callOk at h
  split at h
  · rename_i fn hf
    simp only [Bool.and_eq_true, bne_iff_ne, ne_eq] at h
    obtain ⟨c, hc⟩ := Option.isSome_iff_exists.1 h.2
    simp [callFunc, hf, h.1, hc]
  · cases h

/-- What a call comes to: r, the objects o'. -/
def FinG (D : Nat → Prop) (nu : Nat → Nat → Value) (o : List (Option AObj)) (w : World) (Q : AV → List (Option AObj) → Prop) (e : Ending) (w' : World) : Prop :=
  ∃ v nu' o' r, e = .returned v ∧ Mono nu o w nu' o' w' ∧ RO D nu' o' w' ∧ RA D nu' o' w' r v ∧ Q r o'

def CallG (P : Program) (f : FuncId) (args : List AV) (o : List (Option AObj)) (Q : AV → List (Option AObj) → Prop) : Prop :=
  callOk P f = true ∧ ∀ D nu w vargs, RO D nu o w → RAs D nu o w args vargs → Calls P f vargs w (FinG D nu o w Q)

/-- A call that owns nothing of its caller's: it tells r, which stays. -/
def Call1 (P : Program) (f : FuncId) (args : List AV) (r : AV) : Prop := (wfL 0 args = true ∧ r.wf 0 = true) ∧ CallG P f args [] (fun r' o' => r' = r ∧ o' = [])

section
variable {D : Nat → Prop} {nu : Nat → Nat → Value} {o : List (Option AObj)} {w : World} {P : Program}

theorem CallG.mono {f : FuncId} {args : List AV} {Q Q' : AV → List (Option AObj) → Prop} (h : CallG P f args o Q) (hq : ∀ r o', Q r o' → Q' r o') : CallG P f args o Q' :=
  ⟨h.1, fun D nu w vargs h1 h2 => (h.2 D nu w vargs h1 h2).mono (fun _ _ ⟨v, nu', o', r, k1, k2, k3, k4, k5⟩ => ⟨v, nu', o', r, k1, k2, k3, k4, hq r o' k5⟩)⟩

/-- blocks that stay, and all new ones -/
def DomOf (D : Nat → Prop) (nu : Nat → Nat → Value) (o : List (Option AObj)) (w : World) (b : Nat) : Prop := b < w.heap.size → Fz D nu o w b

theorem domOf_fz {b : Nat} (h : Fz D nu o w b) : Fz (DomOf D nu o w) nu [] w b := ⟨h.1, owned_nil _ _, fun _ => h⟩
theorem fz_back (h : RO D nu o w) {nu' : Nat → Nat → Value} {w' : World} {b : Nat} (hb : Fz (DomOf D nu o w) nu' [] w' b) : Fz D nu o w' b := by
  rcases Nat.lt_or_ge b w.heap.size with hlt | hge
  · have := hb.2.2 hlt
    exact ⟨hb.1, this.2.1, this.2.2⟩
  · exact ⟨hb.1, fun ho => by have := h.owned_lt ho; omega, h.up b hge⟩

theorem mono_nil_below {nu' : Nat → Nat → Value} {w' : World} (h : Mono nu [] w nu' [] w') : Below w.heap.size w w' := ⟨h.os, h.tape, h.output, h.size, fun k hk => (h.keep k hk (owned_nil _ _)).1⟩

/-- A call that owns nothing, made by one that owns o. -/
theorem call1_good {f : FuncId} {args : List AV} {r : AV} {vargs : Array Value} (hc : Call1 P f args r) (h : RO D nu o w) (ha : RAs D nu o w args vargs) :
    Calls P f vargs w (fun e w' => ∃ v, e = .returned v ∧ Below w.heap.size w w' ∧ RA D nu o w' r v) := by
  obtain ⟨⟨h1, h2⟩, _, h3⟩ := hc
  refine (h3 (DomOf D nu o w) nu w vargs (.nil _ _ _ (fun b hb hlt => by omega)) (ha.tr (n := 0) (fun b hb => domOf_fz hb) (fun id len hlt => by omega) h1)).mono ?_
  rintro e w' ⟨v, nu', o', r', rfl, hm, hro, hra, rfl, rfl⟩
  exact ⟨v, rfl, mono_nil_below hm, hra.tr (n := 0) (fun b hb => fz_back h hb) (fun id len hlt => by omega) h2⟩

/-- an own row, seen by a call -/
def Vw (o : List (Option AObj)) (a a' : AV) : Prop := (a' = a ∧ a.wf 0 = true) ∨ ∃ id len ob, a = .vec id len ∧ o[id]? = some (some ob) ∧ ob.isV = true ∧ ob.rows.length = len ∧ wfR 0 ob.rows = true ∧ a' = .slc ob.z ob.rows len
def VwL (o : List (Option AObj)) : List AV → List AV → Prop
  | [], [] => True
  | a :: l, b :: m => Vw o a b ∧ VwL o l m
  | _, _ => False
/-- a value that names no memory -/
def AV.flat : AV → Bool
  | .v _ => true
  | _ => false

theorem vw_good (h : RO D nu o w) {a a' : AV} {x : Value} (hv : Vw o a a') (hr : RA D nu o w a x) : a'.wf 0 = true ∧ RA (fun _ => True) nu [] w a' x := by
  have hF : ∀ b, b < w.heap.size → Fz (fun _ => True) nu [] w b := fun b hb => ⟨hb, owned_nil _ _, trivial⟩
  rcases hv with ⟨rfl, hw⟩ | ⟨id, len, ob, rfl, ho, hv, rfl, hw, rfl⟩
  · exact ⟨hw, hr.tr (n := 0) (fun b hb => hF b hb.1) (fun id len hlt => by omega) hw⟩
  · refine ⟨by simpa only [AV.wf] using hw, ?_⟩
    cases hr
    exact (vec_slc h ho hv).tr (n := 0) (fun b hb => hF b hb.1) (fun id len hlt => by omega) (by simpa only [AV.wf] using hw)

theorem vwL_good (h : RO D nu o w) : ∀ {as bs : List AV} {xs : List Value}, VwL o as bs → as.length = xs.length → (∀ (i : Nat) c x, as[i]? = some c → xs[i]? = some x → RA D nu o w c x) →
    wfL 0 bs = true ∧ bs.length = xs.length ∧ ∀ (i : Nat) c x, bs[i]? = some c → xs[i]? = some x → RA (fun _ => True) nu [] w c x
  | [], [], [], _, _, _ => ⟨rfl, rfl, fun i c x h => by simp at h⟩
  | a :: as, b :: bs, x :: xs, hv, hl, hr => by
    obtain ⟨h1, h2⟩ := vw_good h hv.1 (hr 0 a x rfl rfl)
    obtain ⟨h3, h4, h5⟩ := vwL_good h hv.2 (by simpa using hl) (fun i c x q1 q2 => hr (i + 1) c x (by simpa using q1) (by simpa using q2))
    refine ⟨by simp only [wfL, h1, h3, Bool.and_self], by simpa using h4, fun i c y q1 q2 => ?_⟩
    cases i with
    | zero => simp at q1 q2; subst q1; subst q2; exact h2
    | succ i => exact h5 i c y (by simpa using q1) (by simpa using q2)
  | [], _ :: _, _, hv, _, _ => hv.elim
  | _ :: _, [], _, hv, _, _ => hv.elim
  | [], [], _ :: _, _, hl, _ => by simp at hl
  | _ :: _, _ :: _, [], _, hl, _ => by simp at hl

theorem callV_good {f : FuncId} {args args' : List AV} {r : AV} {vargs : Array Value} (hc : Call1 P f args' r) (hv : VwL o args args') (hf : r.flat = true) (h : RO D nu o w) (ha : RAs D nu o w args vargs) :
    Calls P f vargs w (fun e w' => ∃ v, e = .returned v ∧ Below w.heap.size w w' ∧ RA D nu o w' r v) := by
  obtain ⟨⟨h1, h2⟩, _, h3⟩ := hc
  obtain ⟨k1, k2, k3⟩ := vwL_good (xs := vargs.toList) h hv (by simpa using ha.len) (fun i c x q1 q2 => ha.at' i c x q1 (by simpa using q2))
  refine (h3 (fun _ => True) nu w vargs (.nil _ _ _ (fun _ _ => trivial)) ⟨by simpa using k2, fun i c x q1 q2 => k3 i c x q1 (by simpa using q2)⟩).mono ?_
  rintro e w' ⟨v, nu', o', r', rfl, hm, hro, hra, rfl, rfl⟩
  refine ⟨v, rfl, mono_nil_below hm, ?_⟩
  cases r' with
  | v _ => cases hra; exact .v _
  | _ => cases hf

/-- The call of a walk: it owns nothing; or it sees own rows and tells a plain value; or it is told with all that is owned. -/
def ACallV (P : Program) (f : FuncId) (args : List AV) (o : List (Option AObj)) (K : AV → List (Option AObj) → Prop) : Prop :=
  (∃ r, Call1 P f args r ∧ K r o) ∨ (∃ args' r, VwL o args args' ∧ r.flat = true ∧ Call1 P f args' r ∧ K r o) ∨ CallG P f args o K

theorem ACallV.one {f : FuncId} {args : List AV} {r : AV} {K : AV → List (Option AObj) → Prop} (h : Call1 P f args r) (k : K r o) : ACallV P f args o K := .inl ⟨r, h, k⟩
theorem ACallV.view {f : FuncId} {args : List AV} (args' : List AV) {r : AV} {K : AV → List (Option AObj) → Prop} (h : Call1 P f args' r) (hv : VwL o args args') (hf : r.flat = true) (k : K r o) : ACallV P f args o K := .inr (.inl ⟨args', r, hv, hf, h, k⟩)
theorem ACallV.two {f : FuncId} {args : List AV} {K Q : AV → List (Option AObj) → Prop} (h : CallG P f args o Q) (k : ∀ r o', Q r o' → K r o') : ACallV P f args o K := .inr (.inr (h.mono k))

theorem callA_good {f : FuncId} {args : List AV} {K : AV → List (Option AObj) → Prop} {vargs : Array Value} (hc : ACallV P f args o K) (h : RO D nu o w) (ha : RAs D nu o w args vargs) : callOk P f = true ∧ Calls P f vargs w (FinG D nu o w K) := by
  rcases hc with ⟨r, hc, hk⟩ | ⟨args', r, hv, hf, hc, hk⟩ | hc
  · refine ⟨hc.2.1, (call1_good hc h ha).mono ?_⟩
    rintro e w' ⟨v, rfl, hb, hr⟩
    exact ⟨v, nu, o, r, rfl, mono_below hb, h.below hb, hr, hk⟩
  · refine ⟨hc.2.1, (callV_good hc hv hf h ha).mono ?_⟩
    rintro e w' ⟨v, rfl, hb, hr⟩
    exact ⟨v, nu, o, r, rfl, mono_below hb, h.below hb, hr, hk⟩
  · exact ⟨hc.1, hc.2 D nu w vargs h ha⟩

/-! ### one operation -/
/-- a result is handed on -/
def AR (x : Option (Prop × AV × List (Option AObj))) (K : AV → List (Option AObj) → Prop) : Prop := match x with
  | some (p, r, o') => p ∧ K r o'
  | none => False
@[congr] theorem AR_congr {x y : Option (Prop × AV × List (Option AObj))} {K : AV → List (Option AObj) → Prop} (h : x = y) : AR x K = AR y K := by rw [h]
theorem AR_some (p : Prop) (r : AV) (o' : List (Option AObj)) (K : AV → List (Option AObj) → Prop) : AR (some (p, r, o')) K = (p ∧ K r o') := rfl
theorem AR_true (r : AV) (o' : List (Option AObj)) (K : AV → List (Option AObj) → Prop) : AR (some (True, r, o')) K = K r o' := by simp [AR]
@[congr] theorem ACallV_congr {f : FuncId} {args args' : List AV} {K : AV → List (Option AObj) → Prop} (h : args = args') : ACallV P f args o K = ACallV P f args' o K := by rw [h]

/-- a truth parts the way -/
def AIf (b : Bool) (A B : Prop) : Prop := if b then A else B
@[congr] theorem AIf_congr {b c : Bool} {A B : Prop} (h : b = c) : AIf b A B = AIf c A B := by rw [h]
theorem AIf_true (A B : Prop) : AIf true A B = A := rfl
theorem AIf_false (A B : Prop) : AIf false A B = B := rfl
theorem AIf.part {b : Bool} {A B : Prop} (h1 : b = true → A) (h2 : b = false → B) : AIf b A B := by cases b <;> simp_all [AIf]

/-- the called function -/
def AFn (P : Program) (f : AV) (args : List AV) (o : List (Option AObj)) (K : AV → List (Option AObj) → Prop) : Prop := match f with
  | .fn g first caps => ACallV P g (first ++ args ++ caps) o K
  | _ => False
@[congr] theorem AFn_congr {f f' : AV} {args args' : List AV} {K : AV → List (Option AObj) → Prop} (h : f = f') (k : args = args') : AFn P f args o K = AFn P f' args' o K := by rw [h, k]
theorem AFn_fn (g : FuncId) (first caps args : List AV) (K : AV → List (Option AObj) → Prop) : AFn P (.fn g first caps) args o K = ACallV P g (first ++ args ++ caps) o K := rfl

def ADo (P : Program) (op : Op) (s : AS) (K : AV → List (Option AObj) → Prop) : Prop := match op with
  | .pick c a b => match s.ev c with
    | .v (.bool t) => AIf t (K (s.ev a) s.o) (K (s.ev b) s.o)
    | _ => False
  | .call c => match c.callee with
    | .value f => AFn P (s.ev f) (c.args.toList.map s.ev) s.o K
    | _ => AR (aop P s.ev s.o (.call c)) K
  | op => AR (aop P s.ev s.o op) K

theorem ado_good {s : AS} {a : Act} {oo : Oper} {K : AV → List (Option AObj) → Prop} {next : Act → World → Prop} {Q : Exit → Act → World → Prop} (h : RO D nu s.o w) (hev : Evs D nu s.o w s.ev a.eval oo.op) (hd : ADo P oo.op s K)
    (hk : ∀ v w' nu' r o', Mono nu s.o w nu' o' w' → RO D nu' o' w' → RA D nu' o' w' r v → K r o' → next (a.put oo.dst v) w') : oo.wp P a w next Q := by
  have hop : ∀ op, oo.op = op → AR (aop P s.ev s.o op) K → oo.wp P a w next Q := by
    intro op ho hh
    subst ho
    unfold AR at hh
    split at hh
    · rename_i p r o' e
      obtain ⟨v, w', nu', h1, h2, h3, h4⟩ := aop_good (P := P) h hev e hh.1
      have := hk v w' nu' r o' h2 h3 h4 hh.2
      unfold Oper.wp
      rcases h1 with h1 | ⟨h1, rfl⟩
      · rw [h1, Oper.upon_value]; exact this
      · rw [h1, Oper.upon_skip]; exact this
    · exact hh.elim
  unfold ADo at hd
  split at hd
  · rename_i c x y ho
    have hc := hev c (by rw [ho]; simp [Op.operands])
    split at hd
    · rename_i t e
      rw [e] at hc
      have hcv := hc.v_eq
      unfold Oper.wp
      have hrun : (execOp a.eval oo).run P w = .ok (.value (if t then a.eval x else a.eval y)) w := by simp [execOp, ho, hcv, asBool]
      rw [hrun, Oper.upon_value]
      cases t
      · exact hk _ w nu _ _ (.refl nu _ w) h (hev y (by rw [ho]; simp [Op.operands])) hd
      · exact hk _ w nu _ _ (.refl nu _ w) h (hev x (by rw [ho]; simp [Op.operands])) hd
    · exact hd.elim
  · rename_i c ho
    split at hd
    · rename_i f hc
      unfold AFn at hd
      split at hd
      · rename_i g first caps e
        have hf := hev f (by rw [ho]; simp [Op.operands, Call.operands, hc])
        rw [e] at hf
        generalize hq : a.eval f = vf at hf
        cases hf with
        | fn _ _ _ fi ca q1 q2 q3 q4 =>
        have hargs : ∀ x, x ∈ c.args.toList → RA D nu s.o w (s.ev x) (a.eval x) := fun x hx => hev x (by rw [ho]; simp only [Op.operands, Call.operands, hc]; simp; exact .inr (by simpa using hx))
        have hra : RAs D nu s.o w (first ++ c.args.toList.map s.ev ++ caps) (fi ++ c.args.map a.eval ++ ca) := by
          refine ⟨by simp [q1, q2], fun i cc x k1 k2 => ?_⟩
          rw [List.append_assoc] at k1
          rw [Array.append_assoc] at k2
          rcases Nat.lt_or_ge i first.length with l1 | l1
          · rw [List.getElem?_append_left l1] at k1
            rw [Array.getElem?_append_left (by omega)] at k2
            exact q3 i cc x k1 k2
          · rw [List.getElem?_append_right l1] at k1
            rw [Array.getElem?_append_right (by omega)] at k2
            rw [q1] at k1
            rcases Nat.lt_or_ge (i - fi.size) c.args.size with l2 | l2
            · rw [List.getElem?_append_left (by simpa using l2), List.getElem?_map] at k1
              rw [Array.getElem?_append_left (by simpa using l2), Array.getElem?_map] at k2
              have e2 : c.args.toList[i - fi.size]? = c.args[i - fi.size]? := by simp
              rw [e2] at k1
              cases hk2 : c.args[i - fi.size]? with
              | none => rw [hk2] at k1; cases k1
              | some y =>
                rw [hk2] at k1 k2
                cases k1; cases k2
                exact hargs y (List.mem_of_getElem? (by rw [e2]; exact hk2))
            · rw [List.getElem?_append_right (by simpa using l2)] at k1
              rw [Array.getElem?_append_right (by simpa using l2)] at k2
              simp only [List.length_map, Array.length_toList, Array.size_map] at k1 k2
              exact q4 _ cc x k1 k2
        obtain ⟨c1, c2⟩ := callA_good (P := P) hd h hra
        unfold Oper.wp
        have hrun : (execOp a.eval oo).run P w = .ok (.enter g (fi ++ c.args.map a.eval ++ ca)) w := by
          simp only [execOp, ho, resolve, hc, hq, Deferred.ofValue, Sem.run_bind, Sem.run_pure, Result.andThen_ok, invoke]
          exact run_callFunc c1 _ w
        rw [hrun, Oper.upon_enter]
        refine c2.mono ?_
        rintro e w' ⟨v, nu', o', r, rfl, m1, m2, m3, m4⟩
        exact hk v w' nu' r o' m1 m2 m3 m4
      · exact hd.elim
    · exact hop _ ho hd
  · exact hop _ rfl hd

/-! ### operations one behind the other -/
/-- the activation reads as told -/
structure RS (D : Nat → Prop) (nu : Nat → Nat → Value) (s : AS) (a : Act) (w : World) : Prop where
  ro : RO D nu s.o w
  tm : RAs D nu s.o w s.t a.tmps
  dfr : a.defers = []

theorem RS.ev {s : AS} {a : Act} (h : RS D nu s a w) (x : Operand) : RA D nu s.o w (s.ev x) (a.eval x) := by
  cases x with
  | tmp t =>
    simp only [AS.ev, Act.eval]
    rcases Nat.lt_or_ge t s.t.length with hlt | hge
    · have e1 : s.t[t]? = some s.t[t] := List.getElem?_eq_getElem hlt
      have hl := h.tm.len
      have hlt' : t < a.tmps.size := by rw [← hl]; exact hlt
      have hx : a.tmps[t]? = some a.tmps[t] := Array.getElem?_eq_getElem hlt'
      rw [getD_some e1]
      have : a.tmps.getD t Go.undef = a.tmps[t] := by simp [Array.getD, hlt']
      rw [this]
      exact h.tm.at' t _ _ e1 hx
    · rw [List.getD_eq_getElem?_getD, List.getElem?_eq_none hge]
      exact .undef _
  | const v => exact .v v
  | global g => exact .v _
  | func f =>
    exact .fn f [] [] #[] #[] rfl rfl (fun i c x h => by simp at h) (fun i c x h => by simp at h)

theorem RS.put {s : AS} {a : Act} (h : RS D nu s a w) {w' : World} {nu' : Nat → Nat → Value} {o' : List (Option AObj)} {r : AV} {v : Value} (hm : Mono nu s.o w nu' o' w') (hro : RO D nu' o' w') (hr : RA D nu' o' w' r v) (dst : Option Tmp) :
    RS D nu' (s.put dst r o') (a.put dst v) w' := by
  have ht := h.tm.mono hm (fun _ _ h => h)
  refine ⟨hro, ?_, ?_⟩
  · cases dst with
    | none => exact ht
    | some d =>
      refine ⟨by simpa [AS.put, Act.put] using ht.len, fun i c x h1 h2 => ?_⟩
      simp only [AS.put, Act.put] at h1 h2 ⊢
      by_cases hd : d = i
      · subst hd
        have hlt := (List.getElem?_eq_some_iff.1 h1).1
        simp only [List.length_set] at hlt
        rw [List.getElem?_set_self hlt] at h1
        rw [Array.getElem?_setIfInBounds_self_of_lt (by have := ht.len; omega)] at h2
        cases h1; cases h2
        exact hr
      · rw [List.getElem?_set_ne hd] at h1
        rw [Array.getElem?_setIfInBounds_ne hd] at h2
        exact ht.at' i c x h1 h2
  · have := h.dfr
    cases dst <;> simpa [Act.put] using this

/-- what is known of a guard -/
def gval (all : List Oper) (s : AS) (j : Nat) : Option (Option Bool) := match all[j]? with
  | none => some none
  | some o => match o.dst with
    | none => some none
    | some d => match s.t[d]? with
      | none => some none
      | some (.v (.bool b)) => some (some b)
      | some (.v (.tuple _)) => some none
      | _ => none
def AGd (g : Option (Option Bool)) (want : Bool) (A B : Prop) : Prop := match g with
  | some (some b) => AIf (b == want) A B
  | some none => B
  | none => False
@[congr] theorem AGd_congr {g g' : Option (Option Bool)} {want : Bool} {A B : Prop} (h : g = g') : AGd g want A B = AGd g' want A B := by rw [h]
theorem AGd_some (b want : Bool) (A B : Prop) : AGd (some (some b)) want A B = AIf (b == want) A B := rfl
theorem AGd_none (want : Bool) (A B : Prop) : AGd (some none) want A B = B := rfl

theorem gval_good {all : List Oper} {s : AS} {a : Act} {j : Nat} {g : Option Bool} (htm : ∀ d c x, (∃ o, all[j]? = some o ∧ o.dst = some d) → s.t[d]? = some c → a.tmps[d]? = some x → RA D nu s.o w c x) (hlen : s.t.length = a.tmps.size) (h : gval all s j = some g) : yielded all.toArray a.tmps j = g := by
  unfold gval at h
  unfold yielded
  rw [List.getElem?_toArray]
  split at h
  · rename_i e; rw [e]; cases h; rfl
  · rename_i o e
    rw [e]
    simp only [Option.bind_some]
    split at h
    · rename_i e2; rw [e2]; cases h; rfl
    · rename_i d e2
      rw [e2]
      simp only [Option.bind_some]
      split at h
      · rename_i e3
        cases h
        have : s.t.length ≤ d := List.getElem?_eq_none_iff.1 e3
        rw [Array.getElem?_eq_none (by omega)]
      · rename_i b e3
        cases h
        have hlt := (List.getElem?_eq_some_iff.1 e3).1
        have hx : a.tmps[d]? = some a.tmps[d] := Array.getElem?_eq_getElem (by omega)
        have := (htm d _ _ ⟨o, e, e2⟩ e3 hx).v_eq
        rw [hx, this]
      · rename_i vs e3
        cases h
        have hlt := (List.getElem?_eq_some_iff.1 e3).1
        have hx : a.tmps[d]? = some a.tmps[d] := Array.getElem?_eq_getElem (by omega)
        have := (htm d _ _ ⟨o, e, e2⟩ e3 hx).v_eq
        rw [hx, this]
      · cases h

def AStep (P : Program) (all : List Oper) (oo : Oper) (s : AS) (K : AS → Prop) : Prop := match oo.guard with
  | none => ADo P oo.op s (fun r o' => K (s.put oo.dst r o'))
  | some (j, want) => AGd (gval all s j) want (ADo P oo.op s (fun r o' => K (s.put oo.dst r o'))) (K (s.put oo.dst (.v Go.undef) s.o))

def AOps (P : Program) (all : List Oper) : List Oper → AS → (AS → Prop) → Prop
  | [], s, Q => Q s
  | oo :: rest, s, Q => AStep P all oo s (fun s' => AOps P all rest s' Q)
@[congr] theorem AOps_congr {all ops : List Oper} {s s' : AS} {Q : AS → Prop} (h : s = s') : AOps P all ops s Q = AOps P all ops s' Q := by rw [h]

theorem aops_good {all : List Oper} {Q : AS → Prop} {R : Exit → Act → World → Prop} {o0 : List (Option AObj)} {nu0 : Nat → Nat → Value} {w0 : World} : ∀ (ops : List Oper) (s : AS) (a : Act) (w : World) (nu : Nat → Nat → Value), Mono nu0 o0 w0 nu s.o w → RS D nu s a w → AOps P all ops s Q →
    (∀ s' a' w' nu', Mono nu0 o0 w0 nu' s'.o w' → RS D nu' s' a' w' → Q s' → R .normal a' w') → wpList P all.toArray R ops a w
  | [], s, a, w, nu, hm, hs, hq, hR => hR s a w nu hm hs hq
  | oo :: rest, s, a, w, nu, hm, hs, hq, hR => by
    have hrun : ADo P oo.op s (fun r o' => AOps P all rest (s.put oo.dst r o') Q) → oo.wp P a w (wpList P all.toArray R rest) R := fun hd =>
      ado_good (P := P) hs.ro (fun x _ => hs.ev x) hd (fun v w' nu' r o' m1 m2 m3 m4 => aops_good rest _ _ w' nu' (by simpa only [AS.put] using hm.trans m1) (hs.put m1 m2 m3 oo.dst) m4 hR)
    have hskip : AOps P all rest (s.put oo.dst (.v Go.undef) s.o) Q → wpList P all.toArray R rest (a.put oo.dst Go.undef) w := fun hd =>
      aops_good rest _ _ w nu (by simpa only [AS.put] using hm) (hs.put (.refl nu s.o w) hs.ro (.v _) oo.dst) hd hR
    simp only [AOps, AStep] at hq
    simp only [wpList]
    split at hq
    · rename_i hg
      have : Region.wanted oo (yielded all.toArray a.tmps) = true := by simp [Region.wanted, hg]
      rw [if_pos this]
      exact .inl (hrun hq)
    · rename_i j want hg
      unfold AGd at hq
      split at hq
      · rename_i b e
        have hy := gval_good (w := w) (fun d c x _ h1 h2 => hs.tm.at' d c x h1 h2) hs.tm.len e
        have hw : Region.wanted oo (yielded all.toArray a.tmps) = (b == want) := by simp [Region.wanted, hg, hy]
        rw [hw]
        cases hb : b == want
        · rw [hb] at hq; simp only [Bool.false_eq_true, if_false]; exact hskip hq
        · rw [hb] at hq; simp only [if_true]; exact .inl (hrun hq)
      · rename_i e
        have hy := gval_good (w := w) (fun d c x _ h1 h2 => hs.tm.at' d c x h1 h2) hs.tm.len e
        have hw : Region.wanted oo (yielded all.toArray a.tmps) = false := by simp [Region.wanted, hg, hy]
        rw [hw]
        simp only [Bool.false_eq_true, if_false]
        exact hskip hq
      · exact hq.elim

end
end Go.Proofs.Yteihcfhdhkamfaa
