/- The abstract walk: a function's call, by its body. -/
import Derived.Test.YteihcfhdhkamfaaAbsK
namespace Go.Proofs.Yteihcfhdhkamfaa
open Go.RowKit

section
variable {D : Nat → Prop} {nu : Nat → Nat → Value} {o : List (Option AObj)} {w : World} {P : Program}

/-- the results -/
def aRes (P : Program) (s : AS) : List ResultVar → Option (Prop × List AV)
  | [] => some (True, [])
  | .tmp t :: l => match aRes P s l with
    | some (p, vs) => some (p, s.ev (.tmp t) :: vs)
    | none => none
  | .cell a T :: l => match aLoad P T s.o (s.ev (.tmp a)), aRes P s l with
    | some (q, v), some (p, vs) => some (q ∧ p, v :: vs)
    | _, _ => none

def AFin (x : Option (Prop × List AV)) (o : List (Option AObj)) (Q : AV → List (Option AObj) → Prop) : Prop := match x with
  | some (p, [v]) => p ∧ Q v o
  | some (p, vs) => p ∧ Q (.tup vs) o
  | none => False
@[congr] theorem AFin_congr {x y : Option (Prop × List AV)} {o o' : List (Option AObj)} {Q : AV → List (Option AObj) → Prop} (h : x = y) (k : o = o') : AFin x o Q = AFin y o' Q := by rw [h, k]
theorem AFin_one (p : Prop) (v : AV) (Q : AV → List (Option AObj) → Prop) : AFin (some (p, [v])) o Q = (p ∧ Q v o) := rfl
theorem AFin_none (p : Prop) (Q : AV → List (Option AObj) → Prop) : AFin (some (p, [])) o Q = (p ∧ Q (.tup []) o) := rfl
theorem AFin_two (p : Prop) (v u : AV) (l : List AV) (Q : AV → List (Option AObj) → Prop) : AFin (some (p, v :: u :: l)) o Q = (p ∧ Q (.tup (v :: u :: l)) o) := rfl

def AEnd (P : Program) (rs : List ResultVar) (Q : AV → List (Option AObj) → Prop) (e : AExit) (s : AS) : Prop := match e with
  | .ret => AFin (aRes P s rs) s.o Q
  | .normal => AFin (aRes P s rs) s.o Q
  | _ => False
@[congr] theorem AEnd_congr {rs : List ResultVar} {Q : AV → List (Option AObj) → Prop} {e e' : AExit} {s s' : AS} (h : e = e') (k : s = s') : AEnd P rs Q e s = AEnd P rs Q e' s' := by rw [h, k]
theorem AEnd_ret (rs : List ResultVar) (Q : AV → List (Option AObj) → Prop) (s : AS) : AEnd P rs Q .ret s = AFin (aRes P s rs) s.o Q := rfl
theorem AEnd_normal (rs : List ResultVar) (Q : AV → List (Option AObj) → Prop) (s : AS) : AEnd P rs Q .normal s = AFin (aRes P s rs) s.o Q := rfl

/-- how one result variable is read -/
def resOne (tmps : Array Value) : ResultVar → Sem Value
  | .tmp t => pure (tmps.getD t Go.undef)
  | .cell a t => do loadVar t (← asAddr (tmps.getD a Go.undef))

theorem res_list {s : AS} {a : Act} (h : RS D nu s a w) : ∀ (l : List ResultVar) {p : Prop} {vs : List AV}, aRes P s l = some (p, vs) → p → ∃ xs : List Value, (l.mapM (resOne a.tmps)).run P w = .ok xs w ∧ vs.length = xs.length ∧ ∀ (i : Nat) c x, vs[i]? = some c → xs[i]? = some x → RA D nu s.o w c x
  | [], p, vs, hr, hp => by
    cases hr
    exact ⟨[], by simp, rfl, fun i c x h => by simp at h⟩
  | rv :: l, p, vs, hr, hp => by
    have step : ∀ (v : AV) (q : Prop) (vs' : List AV), (∃ x, (resOne a.tmps rv).run P w = .ok x w ∧ RA D nu s.o w v x) → aRes P s l = some (q, vs') → q → vs = v :: vs' → ∃ xs : List Value, ((rv :: l).mapM (resOne a.tmps)).run P w = .ok xs w ∧ vs.length = xs.length ∧ ∀ (i : Nat) c x, vs[i]? = some c → xs[i]? = some x → RA D nu s.o w c x := by
      rintro v q vs' ⟨x, hx1, hx2⟩ hl hq rfl
      obtain ⟨xs, h1, h2, h3⟩ := res_list h l hl hq
      refine ⟨x :: xs, by simp [List.mapM_cons, hx1, h1], by simp [h2], fun i c y q1 q2 => ?_⟩
      cases i with
      | zero => simp at q1 q2; subst q1; subst q2; exact hx2
      | succ i => exact h3 i c y (by simpa using q1) (by simpa using q2)
    cases rv with
    | tmp t =>
      simp only [aRes] at hr
      split at hr
      · rename_i q vs' e
        cases hr
        exact step _ _ _ ⟨a.eval (.tmp t), rfl, h.ev (.tmp t)⟩ e hp rfl
      · cases hr
    | cell ad T =>
      simp only [aRes] at hr
      split at hr
      · rename_i q v q' vs' e1 e2
        cases hr
        obtain ⟨x, hx1, hx2⟩ := good_load (P := P) h.ro (h.ev (.tmp ad)) e1 hp.1
        refine step _ _ _ ⟨x, ?_, hx2⟩ e2 hp.2 rfl
        simp only [Act.eval] at hx1
        simp only [resOne]
        cases hq : a.tmps.getD ad Go.undef with
        | pointer pa =>
          cases pa with
          | none => rw [hq] at hx1; simp [Instr.loadAt, Instr.sureAddr] at hx1
          | some pa =>
            rw [hq] at hx1
            simpa [Instr.loadAt, Instr.sureAddr, asAddr] using hx1
        | _ => rw [hq] at hx1; simp [Instr.loadAt, Instr.sureAddr] at hx1
      · cases hr

theorem res_good {fn : Func} {s : AS} {a : Act} {Q : AV → List (Option AObj) → Prop} (h : RS D nu s a w) (hf : AFin (aRes P s fn.results.toList) s.o Q) : ∃ v r, (results fn a.tmps).run P w = .ok v w ∧ RA D nu s.o w r v ∧ Q r s.o := by
  have hmap : ∀ xs : List Value, (fn.results.toList.mapM (resOne a.tmps)).run P w = .ok xs w → (results fn a.tmps).run P w = .ok (if h : xs.toArray.size = 1 then xs.toArray[0] else .tuple xs.toArray) w := by
    intro xs hx
    have e : fn.results.mapM (resOne a.tmps) = (List.toArray <$> fn.results.toList.mapM (resOne a.tmps)) := by
      rw [Array.mapM_eq_mapM_toList]
    have : results fn a.tmps = (do let vs ← fn.results.mapM (resOne a.tmps); pure (if h : vs.size = 1 then vs[0] else .tuple vs)) := by
      unfold results
      congr 1
    rw [this, e]
    simp [hx]
  unfold AFin at hf
  split at hf
  · rename_i p v e
    obtain ⟨xs, h1, h2, h3⟩ := res_list h _ e hf.1
    obtain ⟨x, rfl⟩ := List.length_eq_one_iff.1 h2.symm
    exact ⟨x, v, by rw [hmap _ h1]; simp, h3 0 v x rfl rfl, hf.2⟩
  · rename_i p vs hne e
    obtain ⟨xs, h1, h2, h3⟩ := res_list h _ e hf.1
    have hl : ¬ xs.toArray.size = 1 := fun e1 => by
      have : vs.length = 1 := by rw [h2]; simpa using e1
      obtain ⟨v, rfl⟩ := List.length_eq_one_iff.1 this
      exact hne v rfl
    refine ⟨.tuple xs.toArray, .tup vs, by rw [hmap _ h1, dif_neg hl], .tup _ _ (by simpa using h2) (fun i c x q1 q2 => h3 i c x q1 (by simpa using q2)), hf.2⟩
  · exact hf.elim

/-- A function's call, by its body. -/
theorem CallG.enter {f : FuncId} {fn : Func} {c : Code} {args : List AV} {Q : AV → List (Option AObj) → Prop} (hf : P.funcs[f]? = some fn) (hb : fn.body = some c) (hc : callOk P f = true) (hok : okCode c = true) (hmx : P.follows .mixedOrders = true)
    (h : AWp P o.length c ⟨args ++ List.replicate (fn.ntmps - args.length) .undef, o⟩ (AEnd P fn.results.toList Q)) : CallG P f args o Q := by
  refine ⟨hc, fun D nu w vargs hro ha => calls_of_wp hf hb ?_⟩
  have hs : RS D nu ⟨args ++ List.replicate (fn.ntmps - args.length) .undef, o⟩ { tmps := vargs ++ Array.replicate (fn.ntmps - vargs.size) Go.undef, defers := [] } w := by
    have hl := ha.len
    refine ⟨hro, ⟨by simp [hl], fun i cc x h1 h2 => ?_⟩, rfl⟩
    simp only at h1 h2
    rcases Nat.lt_or_ge i args.length with hlt | hge
    · rw [List.getElem?_append_left hlt] at h1
      rw [Array.getElem?_append_left (by omega)] at h2
      exact ha.at' i cc x h1 h2
    · rw [List.getElem?_append_right hge, List.getElem?_replicate] at h1
      split at h1
      · cases h1; exact .undef x
      · cases h1
  refine awp_good (P := P) hmx (nu0 := nu) (w0 := w) (Nat.le_refl o.length) c hok _ _ w nu _ _ (.refl nu o w) hs h (fun e s' a' w' nu' h1 h2 h3 => ?_)
  cases e with
  | ret =>
    obtain ⟨v, r, k1, k2, k3⟩ := res_good h2 h3
    exact ⟨h2.dfr, v, k1, v, nu', s'.o, r, rfl, h1, h2.ro, k2, k3⟩
  | normal =>
    obtain ⟨v, r, k1, k2, k3⟩ := res_good h2 h3
    exact ⟨h2.dfr, v, k1, v, nu', s'.o, r, rfl, h1, h2.ro, k2, k3⟩
  | exit id => exact h3.elim
  | goto l => exact h3.elim

/-! ### what is handed back stays -/
mutual
def aFrz (o : List (Option AObj)) : Nat → AV → Option (Prop × AV)
  | 0, _ => none
  | _ + 1, .vec id len => match o[id]? with
    | some (some ob) => some (ob.isV = true ∧ ob.rows.length = len ∧ wfR 0 ob.rows = true, .slc ob.z ob.rows len)
    | _ => none
  | n + 1, .ptr id len z row off => match o[id]? with
    | some (some ob) => match aFrzL o n (ob.rows.getD row []) with
      | some (p, cs) => some (p ∧ ob.hl = len ∧ ob.z = z ∧ row < ob.rows.length, .vp (cs.drop off))
      | none => none
    | _ => none
  | n + 1, .agg cs => match aFrzL o n cs with
    | some (p, cs') => some (p, .agg cs')
    | none => none
  | n + 1, .tup cs => match aFrzL o n cs with
    | some (p, cs') => some (p, .tup cs')
    | none => none
  | _ + 1, a => some (a.wf 0 = true, a)
def aFrzL (o : List (Option AObj)) : Nat → List AV → Option (Prop × List AV)
  | 0, _ => none
  | _ + 1, [] => some (True, [])
  | n + 1, a :: l => match aFrz o n a, aFrzL o n l with
    | some (p, b), some (q, m) => some (p ∧ q, b :: m)
    | _, _ => none
end

theorem frz_both (h : RO D nu o w) : ∀ (n : Nat), (∀ (a : AV) (x : Value) (p : Prop) (r : AV), aFrz o n a = some (p, r) → p → RA D nu o w a x → RA D nu [] w r x) ∧
    (∀ (l : List AV) (p : Prop) (m : List AV), aFrzL o n l = some (p, m) → p → l.length = m.length ∧ ∀ (i : Nat) a b x, l[i]? = some a → m[i]? = some b → RA D nu o w a x → RA D nu [] w b x)
  | 0 => ⟨fun a x p r he => by simp [aFrz] at he, fun l p m he => by simp [aFrzL] at he⟩
  | n + 1 => by
    have hF : ∀ id ob g cur, o[id]? = some (some ob) → ROb D nu o w id ob g cur → Fz D nu [] w g := fun id ob g cur _ hb => ⟨(Array.getElem?_eq_some_iff.1 hb.blk).1, owned_nil _ _, hb.dom⟩
    have hFz : ∀ b, Fz D nu o w b → Fz D nu [] w b := fun b hb => ⟨hb.1, owned_nil _ _, hb.2.2⟩
    obtain ⟨ih1, ih2⟩ := frz_both h n
    have cl : ∀ (a : AV) (x : Value), a.wf 0 = true → RA D nu o w a x → RA D nu [] w a x := fun a x ha hr => hr.tr (n := 0) hFz (fun id len hlt => by omega) ha
    constructor
    · intro a x p r he hp hr
      cases a with
      | vec id len =>
        simp only [aFrz] at he
        split at he
        · rename_i ob ho
          cases he
          obtain ⟨hv, rfl, hw⟩ := hp
          cases hr
          exact (vec_slc h ho hv).tr (n := 0) (fun b hb => ⟨hb.1, owned_nil _ _, hb.2.2⟩) (fun id len hlt => by omega) (by simpa only [AV.wf] using hw)
        · cases he
      | ptr id len z row off =>
        simp only [aFrz] at he
        split at he
        · rename_i ob ho
          split at he
          · rename_i q cs e
            cases he
            obtain ⟨hq, rfl, rfl, hlt⟩ := hp
            obtain ⟨hl, hall⟩ := ih2 _ _ _ e hq
            cases hr with
            | ptr _ _ _ _ _ b h1 h2 =>
            rcases h.obj id ob ho with ⟨e1, e2, e3⟩ | ⟨g, cur, hb⟩
            · rw [e2] at hlt; simp at hlt
            · rw [hb.blkEq] at h2; cases h2
              have hrow : ob.rows[row]? = some ob.rows[row] := List.getElem?_eq_getElem hlt
              rw [getD_some hrow] at hl hall
              have hget : ∀ (j : Nat) c, cs[j]? = some c → ∃ c0, ob.rows[row][j]? = some c0 ∧ cur[row * ob.z + j]? = some (cur.getD (row * ob.z + j) Go.undef) := fun j c hc => by
                have hj : j < ob.rows[row].length := by rw [hl]; exact (List.getElem?_eq_some_iff.1 hc).1
                have := hb.curLt hrow hj
                exact ⟨_, List.getElem?_eq_getElem hj, by simp [Array.getD, this]⟩
              refine .vp _ b _ (fun j => cur.getD (row * ob.z + (off + j)) Go.undef) (hF id ob b cur ho hb) (fun j c hc => ?_) (fun j c hc => ?_) (fun j c hc => ?_)
              · rw [List.getElem?_drop] at hc
                obtain ⟨c0, k1, k2⟩ := hget _ c hc
                rw [← k2, show row * ob.z + off + j = row * ob.z + (off + j) by omega]
                exact cell_of_row _ _ _ _ _ _ hb.blk
              · rw [List.getElem?_drop] at hc
                obtain ⟨c0, k1, k2⟩ := hget _ c hc
                exact hall _ c0 c _ k1 hc (hb.cell row _ _ c0 _ hrow k1 k2)
              · rw [List.getElem?_drop] at hc
                obtain ⟨c0, k1, k2⟩ := hget _ c hc
                exact hb.one row _ _ c0 _ hrow k1 k2
          · cases he
        · cases he
      | agg cs =>
        simp only [aFrz] at he
        split at he
        · rename_i q cs' e
          cases he
          obtain ⟨hl, hall⟩ := ih2 _ _ _ e hp
          cases hr with
          | agg _ xs h1 h2 h3 =>
            refine .agg _ _ (by omega) (fun i c x q1 q2 => ?_) h3
            have hi : i < cs.length := by rw [hl]; exact (List.getElem?_eq_some_iff.1 q1).1
            exact hall i _ c x (List.getElem?_eq_getElem hi) q1 (h2 i _ x (List.getElem?_eq_getElem hi) q2)
        · cases he
      | tup cs =>
        simp only [aFrz] at he
        split at he
        · rename_i q cs' e
          cases he
          obtain ⟨hl, hall⟩ := ih2 _ _ _ e hp
          cases hr with
          | tup _ xs h1 h2 =>
            refine .tup _ _ (by omega) (fun i c x q1 q2 => ?_)
            have hi : i < cs.length := by rw [hl]; exact (List.getElem?_eq_some_iff.1 q1).1
            exact hall i _ c x (List.getElem?_eq_getElem hi) q1 (h2 i _ x (List.getElem?_eq_getElem hi) q2)
        · cases he
      | _ => simp only [aFrz, Option.some.injEq, Prod.mk.injEq] at he; obtain ⟨rfl, rfl⟩ := he; exact cl _ x hp hr
    · intro l p m he hp
      cases l with
      | nil =>
        simp only [aFrzL, Option.some.injEq, Prod.mk.injEq] at he
        obtain ⟨rfl, rfl⟩ := he
        exact ⟨rfl, fun i a b x h => by simp at h⟩
      | cons a l =>
        simp only [aFrzL] at he
        split at he
        · rename_i q b q' m' e1 e2
          cases he
          obtain ⟨h1, h2⟩ := ih2 _ _ _ e2 hp.2
          refine ⟨by simp [h1], fun i a' b' x k1 k2 hr => ?_⟩
          cases i with
          | zero => simp at k1 k2; subst k1; subst k2; exact ih1 _ x _ _ e1 hp.1 hr
          | succ i => exact h2 i a' b' x (by simpa using k1) (by simpa using k2) hr
        · cases he

/-- r0, told where o is owned, stays as r -/
def AFz (o : List (Option AObj)) (r0 r : AV) : Prop := ∃ n p, aFrz o n r0 = some (p, r) ∧ p
theorem AFz_v (x y : Value) : AFz o (.v x) (.v y) = (x = y) := by
  apply propext
  constructor
  · rintro ⟨n, p, h1, _⟩
    cases n with
    | zero => simp [aFrz] at h1
    | succ n => simp only [aFrz, Option.some.injEq, Prod.mk.injEq, AV.v.injEq] at h1; exact h1.2
  · rintro rfl
    exact ⟨1, _, rfl, rfl⟩
theorem AFz.of {r0 r : AV} (n : Nat) {p : Prop} (h : aFrz o n r0 = some (p, r)) (hp : p) : AFz o r0 r := ⟨n, p, h, hp⟩
theorem AFz.vec {id len : Nat} {ob : AObj} (h : o[id]? = some (some ob)) (hv : ob.isV = true) (hl : ob.rows.length = len) (hw : wfR 0 ob.rows = true) : AFz o (.vec id len) (.slc ob.z ob.rows len) := AFz.of (p := ob.isV = true ∧ ob.rows.length = len ∧ wfR 0 ob.rows = true) 1 (by simp only [aFrz, h]) ⟨hv, hl, hw⟩
theorem AFz.slc {z len : Nat} {rows : List (List AV)} (hw : wfR 0 rows = true) : AFz o (.slc z rows len) (.slc z rows len) := ⟨1, _, rfl, hw⟩

theorem Call1.enter {f : FuncId} {fn : Func} {c : Code} {args : List AV} {r : AV} (hf : P.funcs[f]? = some fn) (hb : fn.body = some c) (hc : callOk P f = true) (hok : okCode c = true) (hmx : P.follows .mixedOrders = true)
    (ha : wfL 0 args = true) (hr : r.wf 0 = true) (h : AWp P 0 c ⟨args ++ List.replicate (fn.ntmps - args.length) .undef, []⟩ (AEnd P fn.results.toList (fun r0 o => AFz o r0 r))) : Call1 P f args r := by
  obtain ⟨_, h2⟩ := CallG.enter (o := []) hf hb hc hok hmx h
  refine ⟨⟨ha, hr⟩, hc, fun D nu w vargs hro hra => (h2 D nu w vargs hro hra).mono ?_⟩
  rintro e w' ⟨v, nu', o', r0, rfl, hm, hro', hra', n, p, hz, hp⟩
  have hm' : Mono nu [] w nu' [] w' := ⟨hm.os, hm.tape, hm.output, hm.size, fun id len hh => by obtain ⟨x, k, _⟩ := hh; simp at k, fun b hb ho => ⟨(hm.keep b hb ho).1, owned_nil _ _⟩⟩
  exact ⟨v, nu', [], r, rfl, hm', .nil _ _ _ hro'.up, (frz_both hro' n).1 r0 v p r hz hp hra', rfl, rfl⟩

end
end Go.Proofs.Yteihcfhdhkamfaa
