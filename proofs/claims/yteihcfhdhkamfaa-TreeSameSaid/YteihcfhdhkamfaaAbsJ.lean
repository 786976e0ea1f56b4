/- The abstract walk: regions that draw their order. -/
import Derived.Test.YteihcfhdhkamfaaAbsI
import Derived.Test.YteihcfhdhkamfaaRel
namespace Go.Proofs.Yteihcfhdhkamfaa
open Go.RowKit

/-- an operation in a region that draws: it leaves all as it is, what it makes stays -/
def aopS (P : Program) (ev : Operand → AV) (o : List (Option AObj)) (op : Op) : Option (Prop × AV) := match op with
  | .buildSlice T len parts => match aBuildSlice P T len [] (parts.toList.map fun p => (p.1, ev p.2)) with
    | some (_, [some ob]) => some (True, .slc ob.z ob.rows len)
    | _ => none
  | .box _ x => match (ev x).cells? with
    | some cs => some (True, .vp cs)
    | none => none
  | .slice T x lo hi mx => match ev x with
    | .vec _ _ => none
    | a => match aSlice P T o a (lo.map ev) (hi.map ev) (mx.map ev) with
      | some (p, r, _) => some (p, r)
      | none => none
  | op => aopP P ev o op

section
variable {D : Nat → Prop} {nu : Nat → Nat → Value} {o : List (Option AObj)} {w : World} {P : Program}

theorem fz_new (h : RO D nu o w) (ob : Obj) : Fz D nu o (w.alloc ob) w.heap.size := ⟨by simp, fun ho => by have := h.owned_lt ho; omega, h.up _ (Nat.le_refl _)⟩
theorem below_alloc' (w : World) (ob : Obj) : Below w.heap.size w (w.alloc ob) := (Below.refl _ _).alloc (Nat.le_refl _) _

theorem aopS_good {ev : Operand → AV} {rho : Operand → Value} {oo : Oper} (h : RO D nu o w) (hev : Evs D nu o w ev rho oo.op) {p : Prop} {r : AV} (ha : aopS P ev o oo.op = some (p, r)) (hp : p) :
    ∃ v w', (execOp rho oo).run P w = .ok (.value v) w' ∧ Below w.heap.size w w' ∧ RA D nu o w' r v := by
  unfold aopS at ha
  split at ha
  · rename_i T len parts hop
    split at ha
    · rename_i r' ob hb
      cases ha
      obtain ⟨e, z, rows, ys, _, h2, h3, hz0, hlm, hys, hg, hrun⟩ := run_bs (D := D) (nu := nu) (o := o) (w := w) (P := P) (vs := parts.map fun (i, x) => (i, rho x)) (by simp) (fun k p q a b => by
        rw [List.getElem?_map] at a
        rw [Array.getElem?_map] at b
        have e : parts.toList[k]? = parts[k]? := by simp
        rw [e] at a
        cases hk : parts[k]? with
        | none => rw [hk] at a; cases a
        | some pr =>
          rw [hk] at a b
          cases a; cases b
          exact ⟨rfl, hev pr.2 (by
            rw [hop]
            simp only [Op.operands]
            have : pr ∈ parts.toList := List.mem_of_getElem? (by rw [e]; exact hk)
            simpa using ⟨pr.1, by simpa using this⟩)⟩) hb
      simp only [List.nil_append, List.cons.injEq, Option.some.injEq, and_true] at h2
      subst h2
      have hrun' : ((do pure (Next.value (← Instr.buildSlice T len (parts.map fun (i, x) => (i, rho x)))) : Sem Next)).run P w = .ok (.value (.slice (some ⟨w.heap.size, 0, none⟩) len len)) (w.alloc (.cells ys e)) := by rw [Sem.run_bind, hrun]; rfl
      refine ⟨_, _, by simpa only [execOp, hop] using hrun', below_alloc' _ _, ?_⟩
      have hget : ∀ (i j : Nat) row c, rows[i]? = some row → row[j]? = some c → ys[i * z + j]? = some (ys.getD (i * z + j) Go.undef) := fun i j row c k1 k2 => by
        obtain ⟨x, q1, _⟩ := hg.cell i j row c k1 k2
        have := (Array.getElem?_eq_some_iff.1 q1).1
        simp [Array.getD, this]
      refine .slc z rows len _ 0 len (fun i j => ys.getD (i * z + j) Go.undef) (by omega) (by omega) (by unfold maxLen; omega) (fun _ => fz_new h _) hg.row (fun i j row c k1 k2 => ?_) (fun i j row c k1 k2 => ?_) (fun i j row c k1 k2 => ?_)
      · rw [← hget i j row c k1 k2, Nat.zero_add]
        exact cell_of_row _ _ _ _ _ _ (heap_alloc_new w _)
      · obtain ⟨x, q1, q2, _⟩ := hg.cell i j row c k1 k2
        have := hget i j row c k1 k2
        rw [q1] at this
        rw [← Option.some.inj this]
        exact q2.mono (mono_below (below_alloc' w _)) (fun _ _ h => h)
      · obtain ⟨x, q1, _, q3⟩ := hg.cell i j row c k1 k2
        have := hget i j row c k1 k2
        rw [q1] at this
        rw [← Option.some.inj this]
        exact q3
    · cases ha
  · rename_i T x hop
    have hx := hev x (by rw [hop]; simp [Op.operands])
    split at ha
    · rename_i cs hc
      cases ha
      have hcs := hx.one hc
      refine ⟨.pointer (some ⟨w.heap.size, 0, none⟩), w.alloc (.cells (rho x).cells T), by simp [execOp, hop, Instr.box, newVar, newRow], below_alloc' _ _, ?_⟩
      have hget : ∀ (j : Nat) c, cs[j]? = some c → (rho x).cells[j]? = some ((rho x).cells.getD j Go.undef) := fun j c k => by
        have := (List.getElem?_eq_some_iff.1 k).1
        have hl := hcs.len
        simp [Array.getD, show j < (rho x).cells.size by omega]
      refine .vp cs _ 0 (fun j => (rho x).cells.getD j Go.undef) (fz_new h _) (fun j c k => ?_) (fun j c k => ?_) (fun j c k => ?_)
      · rw [← hget j c k, Nat.zero_add]
        exact cell_of_row _ _ _ _ _ _ (heap_alloc_new w _)
      · exact (hcs.at' j c _ k (hget j c k)).mono (mono_below (below_alloc' w _)) (fun _ _ h => h)
      · exact hcs.one j _ (hget j c k)
    · cases ha
  · rename_i T x lo hi mx hop
    split at ha
    · cases ha
    · rename_i hne
      split at ha
      · rename_i p' r' o' hb
        cases ha
        obtain ⟨v, h1, h2, _⟩ := slice_pure (P := P) (hev x (by rw [hop]; simp [Op.operands])) (opt_some (rho := rho) (fun y hy => hev y (by rw [hop, hy]; simp [Op.operands]))) (opt_some (rho := rho) (fun y hy => hev y (by rw [hop, hy]; simp [Op.operands]))) (opt_some (rho := rho) (fun y hy => hev y (by rw [hop, hy]; simp [Op.operands]))) hb hp (fun id len e => hne id len e)
        refine ⟨v, w, ?_, .refl _ _, h2⟩
        simp only [execOp, hop, Sem.run_bind, h1, Result.andThen_ok, Sem.run_pure]
      · cases ha
  · obtain ⟨v, h1, h2⟩ := aopP_good (P := P) h hev ha hp
    exact ⟨v, w, h1, .refl _ _, h2⟩

def AR1 (x : Option (Prop × AV)) (K : AV → Prop) : Prop := match x with
  | some (p, r) => p ∧ K r
  | none => False
@[congr] theorem AR1_congr {x y : Option (Prop × AV)} {K : AV → Prop} (h : x = y) : AR1 x K = AR1 y K := by rw [h]
theorem AR1_some (p : Prop) (r : AV) (K : AV → Prop) : AR1 (some (p, r)) K = (p ∧ K r) := rfl
theorem AR1_true (r : AV) (K : AV → Prop) : AR1 (some (True, r)) K = K r := by simp [AR1]

def ACallS (P : Program) (f : FuncId) (args : List AV) (o : List (Option AObj)) (K : AV → Prop) : Prop :=
  ∃ r, (Call1 P f args r ∨ ∃ args', VwL o args args' ∧ r.flat = true ∧ Call1 P f args' r) ∧ K r
@[congr] theorem ACallS_congr {f : FuncId} {args args' : List AV} {K : AV → Prop} (h : args = args') : ACallS P f args o K = ACallS P f args' o K := by rw [h]
theorem ACallS.one {f : FuncId} {args : List AV} {r : AV} {K : AV → Prop} (h : Call1 P f args r) (k : K r) : ACallS P f args o K := ⟨r, .inl h, k⟩
theorem ACallS.view {f : FuncId} {args : List AV} (args' : List AV) {r : AV} {K : AV → Prop} (h : Call1 P f args' r) (hv : VwL o args args') (hf : r.flat = true) (k : K r) : ACallS P f args o K := ⟨r, .inr ⟨args', hv, hf, h⟩, k⟩
def AFnS (P : Program) (f : AV) (args : List AV) (o : List (Option AObj)) (K : AV → Prop) : Prop := match f with
  | .fn g first caps => ACallS P g (first ++ args ++ caps) o K
  | _ => False
@[congr] theorem AFnS_congr {f f' : AV} {args args' : List AV} {K : AV → Prop} (h : f = f') (k : args = args') : AFnS P f args o K = AFnS P f' args' o K := by rw [h, k]
theorem AFnS_fn (g : FuncId) (first caps args : List AV) (K : AV → Prop) : AFnS P (.fn g first caps) args o K = ACallS P g (first ++ args ++ caps) o K := rfl

def ADoS (P : Program) (op : Op) (s : AS) (K : AV → Prop) : Prop := match op with
  | .pick c a b => match s.ev c with
    | .v (.bool t) => AIf t (K (s.ev a)) (K (s.ev b))
    | _ => False
  | .call c => match c.callee with
    | .value f => AFnS P (s.ev f) (c.args.toList.map s.ev) s.o K
    | _ => AR1 (aopS P s.ev s.o (.call c)) K
  | op => AR1 (aopS P s.ev s.o op) K

theorem adoS_good {s : AS} {rho : Operand → Value} {oo : Oper} {K : AV → Prop} (h : RO D nu s.o w) (hev : Evs D nu s.o w s.ev rho oo.op) (hd : ADoS P oo.op s K) :
    ∃ r, K r ∧ OutR P ⟨fun v w => RO D nu s.o w ∧ RA D nu s.o w r v, fun _ _ _ hb hh => ⟨hh.1.below hb, hh.2.mono (mono_below hb) (fun _ _ h => h)⟩⟩ w ((execOp rho oo).run P w) := by
  have hop : ∀ op, oo.op = op → AR1 (aopS P s.ev s.o op) K → ∃ r, K r ∧ OutR P ⟨fun v w => RO D nu s.o w ∧ RA D nu s.o w r v, fun _ _ _ hb hh => ⟨hh.1.below hb, hh.2.mono (mono_below hb) (fun _ _ h => h)⟩⟩ w ((execOp rho oo).run P w) := by
    intro op ho hh
    subst ho
    unfold AR1 at hh
    split at hh
    · rename_i p r e
      obtain ⟨v, w', h1, h2, h3⟩ := aopS_good (P := P) h hev e hh.1
      rw [h1]
      exact ⟨r, hh.2, ⟨h.below h2, h3⟩, h2⟩
    · exact hh.elim
  unfold ADoS at hd
  split at hd
  · rename_i c x y ho
    have hc := hev c (by rw [ho]; simp [Op.operands])
    split at hd
    · rename_i t e
      rw [e] at hc
      have hcv := hc.v_eq
      have hrun : (execOp rho oo).run P w = .ok (.value (if t then rho x else rho y)) w := by simp [execOp, ho, hcv, asBool]
      rw [hrun]
      cases t
      · exact ⟨_, hd, ⟨h, hev y (by rw [ho]; simp [Op.operands])⟩, .refl _ _⟩
      · exact ⟨_, hd, ⟨h, hev x (by rw [ho]; simp [Op.operands])⟩, .refl _ _⟩
    · exact hd.elim
  · rename_i c ho
    split at hd
    · rename_i f hc
      unfold AFnS at hd
      split at hd
      · rename_i g first caps e
        obtain ⟨r, hcall, hk⟩ := hd
        -- by the same road as where the order is not drawn
        have key : ∀ (K' : AV → List (Option AObj) → Prop), ACallV P g (first ++ c.args.toList.map s.ev ++ caps) s.o K' → ADo P oo.op s K' := fun K' hh => by
          unfold ADo
          rw [ho]
          simp only [hc, AFn, e]
          exact hh
        have hf := hev f (by rw [ho]; simp [Op.operands, Call.operands, hc])
        rw [e] at hf
        generalize hq : rho f = vf at hf
        cases hf with
        | fn _ _ _ fi ca q1 q2 q3 q4 =>
        have hargs : ∀ x, x ∈ c.args.toList → RA D nu s.o w (s.ev x) (rho x) := fun x hx => hev x (by rw [ho]; simp only [Op.operands, Call.operands, hc]; simp; exact .inr (by simpa using hx))
        have hra : RAs D nu s.o w (first ++ c.args.toList.map s.ev ++ caps) (fi ++ c.args.map rho ++ ca) := by
          refine ⟨by simp [q1, q2], fun i cc x k1 k2 => ?_⟩
          rw [List.append_assoc] at k1
          rw [Array.append_assoc] at k2
          rcases Nat.lt_or_ge i first.length with l1 | l1
          · rw [List.getElem?_append_left l1] at k1
            rw [Array.getElem?_append_left (by omega)] at k2
            exact q3 i cc x k1 k2
          · rw [List.getElem?_append_right l1] at k1
            rw [Array.getElem?_append_right (by omega)] at k2
            rw [q1] at k1
            rcases Nat.lt_or_ge (i - fi.size) c.args.size with l2 | l2
            · rw [List.getElem?_append_left (by simpa using l2), List.getElem?_map] at k1
              rw [Array.getElem?_append_left (by simpa using l2), Array.getElem?_map] at k2
              have e2 : c.args.toList[i - fi.size]? = c.args[i - fi.size]? := by simp
              rw [e2] at k1
              cases hk2 : c.args[i - fi.size]? with
              | none => rw [hk2] at k1; cases k1
              | some y =>
                rw [hk2] at k1 k2
                cases k1; cases k2
                exact hargs y (List.mem_of_getElem? (by rw [e2]; exact hk2))
            · rw [List.getElem?_append_right (by simpa using l2)] at k1
              rw [Array.getElem?_append_right (by simpa using l2)] at k2
              simp only [List.length_map, Array.length_toList, Array.size_map] at k1 k2
              exact q4 _ cc x k1 k2
        have fin : ∀ (hok : callOk P g = true) (hcalls : Calls P g (fi ++ c.args.map rho ++ ca) w (fun e w' => ∃ v, e = .returned v ∧ Below w.heap.size w w' ∧ RA D nu s.o w' r v)), ∃ r, K r ∧ OutR P ⟨fun v w => RO D nu s.o w ∧ RA D nu s.o w r v, fun _ _ _ hb hh => ⟨hh.1.below hb, hh.2.mono (mono_below hb) (fun _ _ h => h)⟩⟩ w ((execOp rho oo).run P w) := by
          intro hok hcalls
          have hrun : (execOp rho oo).run P w = .ok (.enter g (fi ++ c.args.map rho ++ ca)) w := by
            simp only [execOp, ho, resolve, hc, hq, Deferred.ofValue, Sem.run_bind, Sem.run_pure, Result.andThen_ok, invoke]
            exact run_callFunc hok _ w
          rw [hrun]
          refine ⟨r, hk, hcalls.mono ?_⟩
          rintro e w' ⟨v, rfl, hb, hr⟩
          exact ⟨v, rfl, ⟨h.below hb, hr⟩, hb⟩
        rcases hcall with hcall | ⟨args', hv, hfl, hcall⟩
        · exact fin hcall.2.1 (call1_good hcall h hra)
        · exact fin hcall.2.1 (callV_good hcall hv hfl h hra)
      · exact hd.elim
    · exact hop _ ho hd
  · exact hop _ rfl hd

theorem ados_ex {s : AS} {op : Op} {K : AV → Prop} (h : ADoS P op s K) : ∃ r, K r ∧ ADoS P op s (fun r' => r' = r) := by
  have one : ∀ x : Option (Prop × AV), AR1 x K → ∃ r, K r ∧ AR1 x (fun r' => r' = r) := fun x hx => by
    unfold AR1 at hx
    split at hx
    · rename_i p r
      exact ⟨r, hx.2, hx.1, rfl⟩
    · exact hx.elim
  unfold ADoS at h ⊢
  split at h
  · rename_i c a b
    split at h
    · rename_i t e
      cases t
      · exact ⟨_, h, rfl⟩
      · exact ⟨_, h, rfl⟩
    · exact h.elim
  · rename_i c
    split at h
    · rename_i f hc
      unfold AFnS at h ⊢
      split at h
      · rename_i g first caps e
        obtain ⟨r, h1, h2⟩ := h
        exact ⟨r, h2, r, h1, rfl⟩
      · exact h.elim
    · exact one _ h
  · exact one _ h

/-- a region that draws, its operations as they stand, the last one last -/
def ADraw (P : Program) (all : List Oper) : List Oper → AS → (AS → Prop) → Prop
  | [], _, _ => False
  | [oo], s, Q => match oo.guard with
    | none => ADo P oo.op s (fun r o' => Q (s.put oo.dst r o'))
    | some _ => False
  | oo :: rest, s, Q => match oo.guard with
    | none => ADoS P oo.op s (fun r => ADraw P all rest (s.put oo.dst r s.o) Q)
    | some (j, want) => AGd (gval all s j) want (ADoS P oo.op s (fun r => ADraw P all rest (s.put oo.dst r s.o) Q)) (ADraw P all rest (s.put oo.dst (.v Go.undef) s.o) Q)
@[congr] theorem ADraw_congr {all ops : List Oper} {s s' : AS} {Q : AS → Prop} (h : s = s') : ADraw P all ops s Q = ADraw P all ops s' Q := by rw [h]

def specOf (D : Nat → Prop) (nu : Nat → Nat → Value) (o : List (Option AObj)) (r : AV) : Spec := ⟨fun v w => RO D nu o w ∧ RA D nu o w r v, fun _ _ _ hb hh => ⟨hh.1.below hb, hh.2.mono (mono_below hb) (fun _ _ h => h)⟩⟩

theorem at_spec {rs rs' : List AV} {i : Nat} {r : AV} (h : rs[i]? = some r) : at' ((rs ++ rs').map (specOf D nu o)) i = specOf D nu o r := by
  have hlt := (List.getElem?_eq_some_iff.1 h).1
  unfold at'
  rw [List.getD_eq_getElem?_getD, List.getElem?_map, List.getElem?_append_left hlt, h]
  rfl
theorem at_spec_new {rs rs' : List AV} {r : AV} : at' ((rs ++ r :: rs').map (specOf D nu o)) rs.length = specOf D nu o r := by
  unfold at'
  rw [List.getD_eq_getElem?_getD, List.getElem?_map, List.getElem?_append_right (Nat.le_refl _), Nat.sub_self]
  rfl

/-- what is known of the activation before operation k -/
structure DInv (l : List Oper) (s : AS) (a : Act) (k : Nat) (sk : AS) (rs : List AV) (A : (Nat → Value) → Act) : Prop where
  o : sk.o = s.o
  len : rs.length = k
  dfr : ∀ x, (A x).defers = []
  size : ∀ x, sk.t.length = (A x).tmps.size
  val : ∀ x (t : Nat) c v, sk.t[t]? = some c → (A x).tmps[t]? = some v → (s.t[t]? = some c ∧ a.tmps[t]? = some v) ∨ ∃ i, i < k ∧ (∃ oi, l[i]? = some oi ∧ oi.dst = some t) ∧ rs[i]? = some c ∧ v = x i

theorem DInv.step {l : List Oper} {s : AS} {a : Act} {k : Nat} {sk : AS} {rs : List AV} {A : (Nat → Value) → Act} (h : DInv l s a k sk rs A) {oo : Oper} (ho : l[k]? = some oo) (r : AV) :
    DInv l s a (k + 1) (sk.put oo.dst r s.o) (rs ++ [r]) (fun x => (A x).put oo.dst (x k)) := by
  refine ⟨rfl, by simp [h.len], fun x => ?_, fun x => ?_, fun x t c v h1 h2 => ?_⟩
  · have := h.dfr x; cases oo.dst <;> simpa [Act.put] using this
  · have := h.size x; cases oo.dst <;> simpa [Act.put, AS.put] using this
  · have old : sk.t[t]? = some c → (A x).tmps[t]? = some v → (s.t[t]? = some c ∧ a.tmps[t]? = some v) ∨ ∃ i, i < k + 1 ∧ (∃ oi, l[i]? = some oi ∧ oi.dst = some t) ∧ (rs ++ [r])[i]? = some c ∧ v = x i := by
      intro h1 h2
      rcases h.val x t c v h1 h2 with h3 | ⟨i, q1, q2, q3, q4⟩
      · exact .inl h3
      · exact .inr ⟨i, by omega, q2, by rw [List.getElem?_append_left (by rw [h.len]; exact q1)]; exact q3, q4⟩
    cases hd : oo.dst with
    | none => rw [hd] at h1 h2; exact old h1 h2
    | some d =>
      rw [hd] at h1 h2
      simp only [AS.put, Act.put] at h1 h2
      by_cases hdt : d = t
      · subst hdt
        have hlt := (List.getElem?_eq_some_iff.1 h1).1
        simp only [List.length_set] at hlt
        rw [List.getElem?_set_self hlt] at h1
        rw [Array.getElem?_setIfInBounds_self_of_lt (by have := h.size x; omega)] at h2
        cases h1; cases h2
        exact .inr ⟨k, by omega, ⟨oo, ho, hd⟩, by rw [List.getElem?_append_right (by rw [h.len]; exact Nat.le_refl _), h.len, Nat.sub_self]; rfl, rfl⟩
      · rw [List.getElem?_set_ne hdt] at h1
        rw [Array.getElem?_setIfInBounds_ne hdt] at h2
        exact old h1 h2

theorem relB_pair {l : List Oper} (hB : relB l.toArray = true) {i j : Nat} {oi oj : Oper} (hij : i < j) (hi : l[i]? = some oi) (hj : l[j]? = some oj) : depB l.toArray j i = true ∨ ∀ d, oi.dst = some d → d ∉ oj.looksAt l.toArray := by
  simp only [relB, Bool.and_eq_true, List.all_eq_true, List.mem_range, List.size_toArray] at hB
  have := (hB.2 j (List.getElem?_eq_some_iff.1 hj).1).1.1 i hij
  simp only [pairB, List.getElem?_toArray, hi, hj, Bool.and_eq_true, Bool.or_eq_true] at this
  rcases this.1.1.1 with h | h
  · exact .inl h
  · exact .inr (fun d hd => (Oper.apart_spec h).1 d hd)

theorem adraw_good {l : List Oper} (hB : relB l.toArray = true) {s : AS} {a : Act} {w0 : World} {Q : AS → Prop} {R : Exit → Act → World → Prop} {o0 : List (Option AObj)} {nu0 : Nat → Nat → Value} {w00 : World} (hm : Mono nu0 o0 w00 nu s.o w0) (hs : RS D nu s a w0)
    (hR : ∀ s' a' w' nu', Mono nu0 o0 w00 nu' s'.o w' → RS D nu' s' a' w' → Q s' → R .normal a' w') :
    ∀ (rest : List Oper) (k : Nat) (sk : AS) (rs : List AV) (A : (Nat → Value) → Act), l.drop k = rest → DInv l s a k sk rs A → ADraw P l rest sk Q → ∃ rs', relObl P l.toArray ((rs ++ rs').map (specOf D nu s.o)) w0 R rest k A
  | [], _, _, _, _, _, _, h => h.elim
  | [oo], k, sk, rs, A, hl, hI, h => by
    refine ⟨[], relObl_last (fun x wr hE hD => ?_)⟩
    have hg : oo.guard = none := by
      simp only [ADraw] at h
      split at h
      · assumption
      · exact h.elim
    simp only [ADraw, hg] at h
    have hro : RO D nu s.o wr := hs.ro.below hE
    have hsk : RS D nu sk (A x) wr := by
      refine ⟨by rw [hI.o]; exact hro, ⟨hI.size x, fun t c v h1 h2 => ?_⟩, hI.dfr x⟩
      rw [hI.o]
      rcases hI.val x t c v h1 h2 with ⟨h3, h4⟩ | ⟨i, q1, q2, q3, q4⟩
      · exact (hs.tm.at' t c v h3 h4).mono (mono_below hE) (fun _ _ h => h)
      · have := hD i q1
        rw [at_spec q3] at this
        rw [q4]; exact this.2
    refine ⟨by simp [Region.wanted, hg], ado_good (P := P) hsk.ro (fun y _ => hsk.ev y) h (fun v w' nu' r o' m1 m2 m3 m4 => hR _ _ w' nu' ?_ (hsk.put m1 m2 m3 oo.dst) m4)⟩
    have : Mono nu0 o0 w00 nu sk.o wr := by rw [hI.o]; exact hm.trans (mono_below hE)
    simpa only [AS.put] using this.trans m1
  | oo :: o2 :: rest, k, sk, rs, A, hl, hI, h => by
    have hok : l[k]? = some oo := by have := congrArg (fun m => m[0]?) hl; simpa using this
    have hl' : l.drop (k + 1) = o2 :: rest := by have := congrArg List.tail hl; simpa using this
    -- what the operation looks at reads as told
    have hlook : ∀ x wr, Below w0.heap.size w0 wr → (∀ rs' i, depB l.toArray k i = true → i < k → (at' ((rs ++ rs').map (specOf D nu s.o)) i).p (x i) wr) → ∀ (t : Nat) c v, t ∈ oo.looksAt l.toArray → sk.t[t]? = some c → (A x).tmps[t]? = some v → RA D nu s.o wr c v := by
      intro x wr hE hD t c v ht h1 h2
      rcases hI.val x t c v h1 h2 with ⟨h3, h4⟩ | ⟨i, q1, ⟨oi, q2, q5⟩, q3, q4⟩
      · exact (hs.tm.at' t c v h3 h4).mono (mono_below hE) (fun _ _ h => h)
      · rcases relB_pair hB q1 q2 hok with h5 | h5
        · have := hD [] i h5 q1
          rw [at_spec q3] at this
          rw [q4]; exact this.2
        · exact absurd ht (h5 t q5)
    have hevs : ∀ x wr, Below w0.heap.size w0 wr → (∀ rs' i, depB l.toArray k i = true → i < k → (at' ((rs ++ rs').map (specOf D nu s.o)) i).p (x i) wr) → Evs D nu s.o wr sk.ev (A x).eval oo.op := by
      intro x wr hE hD y hy
      cases y with
      | tmp t =>
        simp only [AS.ev, Act.eval]
        rcases Nat.lt_or_ge t sk.t.length with hlt | hge
        · have e1 : sk.t[t]? = some sk.t[t] := List.getElem?_eq_getElem hlt
          have hlt' : t < (A x).tmps.size := by rw [← hI.size x]; exact hlt
          have hx : (A x).tmps[t]? = some (A x).tmps[t] := Array.getElem?_eq_getElem hlt'
          rw [getD_some e1]
          have : (A x).tmps.getD t Go.undef = (A x).tmps[t] := by simp [Array.getD, hlt']
          rw [this]
          exact hlook x wr hE hD t _ _ (List.mem_append_left _ (List.mem_filterMap.2 ⟨.tmp t, hy, rfl⟩)) e1 hx
        · rw [List.getD_eq_getElem?_getD, List.getElem?_eq_none hge]
          exact .undef _
      | const v => exact .v v
      | global g => exact .v _
      | func f => exact .fn f [] [] #[] #[] rfl rfl (fun i c x h => by simp at h) (fun i c x h => by simp at h)
    -- it is carried out
    have hdo : ADoS P oo.op sk (fun r => ADraw P l (o2 :: rest) (sk.put oo.dst r sk.o) Q) → (∀ x wr, Below w0.heap.size w0 wr → (∀ rs' i, depB l.toArray k i = true → i < k → (at' ((rs ++ rs').map (specOf D nu s.o)) i).p (x i) wr) → Region.wanted oo (yielded l.toArray (A x).tmps) = true) →
        ∃ rs', relObl P l.toArray ((rs ++ rs').map (specOf D nu s.o)) w0 R (oo :: o2 :: rest) k A := by
      intro hd hw
      obtain ⟨r, hk, hr⟩ := ados_ex hd
      rw [hI.o] at hk
      obtain ⟨rs', hrel⟩ := adraw_good hB hm hs hR (o2 :: rest) (k + 1) _ (rs ++ [r]) _ hl' (hI.step hok r) hk
      rw [List.append_assoc, List.singleton_append] at hrel
      refine ⟨r :: rs', relObl_step (fun x wr hE hD => ?_) hrel⟩
      have hD' : ∀ rs'' i, depB l.toArray k i = true → i < k → (at' ((rs ++ rs'').map (specOf D nu s.o)) i).p (x i) wr := fun rs'' i h1 h2 => by
        have h3 := hD i h1
        have h5 : i < rs.length := by rw [hI.len]; exact h2
        have h4 : rs[i]? = some rs[i] := List.getElem?_eq_getElem h5
        rw [at_spec h4] at h3 ⊢
        exact h3
      obtain ⟨r', rfl, hout⟩ := adoS_good (P := P) (nu := nu) (D := D) (w := wr) (rho := (A x).eval) (by rw [hI.o]; exact hs.ro.below hE) (by rw [hI.o]; exact hevs x wr hE hD') hr
      have e := at_spec_new (D := D) (nu := nu) (o := s.o) (rs := rs) (rs' := rs') (r := r')
      rw [hI.len] at e
      refine .inl ⟨hw x wr hE hD', ?_⟩
      rw [e]
      rw [hI.o] at hout
      exact hout
    simp only [ADraw] at h
    split at h
    · rename_i hg
      exact hdo h (fun x wr hE hD => by simp [Region.wanted, hg])
    · rename_i j want hg
      have hyv : ∀ g, gval l sk j = some g → ∀ x wr, Below w0.heap.size w0 wr → (∀ rs' i, depB l.toArray k i = true → i < k → (at' ((rs ++ rs').map (specOf D nu s.o)) i).p (x i) wr) → yielded l.toArray (A x).tmps j = g := fun g hgv x wr hE hD =>
        gval_good (D := D) (nu := nu) (w := wr) (fun d c v hd h1 h2 => by
          rw [hI.o]
          refine hlook x wr hE hD d c v ?_ h1 h2
          obtain ⟨og, q1, q2⟩ := hd
          refine List.mem_append_right _ ?_
          simp only [hg, List.getElem?_toArray, q1, Option.bind_some, q2]
          simp) (hI.size x) hgv
      have hskip : ADraw P l (o2 :: rest) (sk.put oo.dst (.v Go.undef) sk.o) Q → (∀ x wr, Below w0.heap.size w0 wr → (∀ rs' i, depB l.toArray k i = true → i < k → (at' ((rs ++ rs').map (specOf D nu s.o)) i).p (x i) wr) → Region.wanted oo (yielded l.toArray (A x).tmps) = false) →
          ∃ rs', relObl P l.toArray ((rs ++ rs').map (specOf D nu s.o)) w0 R (oo :: o2 :: rest) k A := by
        intro hk hw
        rw [hI.o] at hk
        obtain ⟨rs', hrel⟩ := adraw_good hB hm hs hR (o2 :: rest) (k + 1) _ (rs ++ [.v Go.undef]) _ hl' (hI.step hok (.v Go.undef)) hk
        rw [List.append_assoc, List.singleton_append] at hrel
        refine ⟨.v Go.undef :: rs', relObl_step (fun x wr hE hD => ?_) hrel⟩
        have hD' : ∀ rs'' i, depB l.toArray k i = true → i < k → (at' ((rs ++ rs'').map (specOf D nu s.o)) i).p (x i) wr := fun rs'' i h1 h2 => by
          have h3 := hD i h1
          have h5 : i < rs.length := by rw [hI.len]; exact h2
          have h4 : rs[i]? = some rs[i] := List.getElem?_eq_getElem h5
          rw [at_spec h4] at h3 ⊢
          exact h3
        have e := at_spec_new (D := D) (nu := nu) (o := s.o) (rs := rs) (rs' := rs') (r := .v Go.undef)
        rw [hI.len] at e
        refine .inr ⟨hw x wr hE hD', ?_⟩
        rw [e]
        exact ⟨hs.ro.below hE, .v _⟩
      unfold AGd at h
      split at h
      · rename_i b e
        cases hb : b == want
        · rw [hb] at h
          exact hskip h (fun x wr hE hD => by simp only [Region.wanted, hg, hyv _ e x wr hE hD]; simpa using hb)
        · rw [hb] at h
          exact hdo h (fun x wr hE hD => by simp only [Region.wanted, hg, hyv _ e x wr hE hD]; simpa using hb)
      · rename_i e
        exact hskip h (fun x wr hE hD => by simp only [Region.wanted, hg, hyv _ e x wr hE hD]; rfl)
      · exact h.elim
end
end Go.Proofs.Yteihcfhdhkamfaa
