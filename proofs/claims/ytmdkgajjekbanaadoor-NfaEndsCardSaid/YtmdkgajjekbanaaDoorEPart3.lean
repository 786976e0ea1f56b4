/- A region that draws and builds a struct of two rows that it makes and a truth that a call tells, and lays it in a variable of its own. -/
import Derived.Test.YtmdkgajjekbanaaDoorEAbsW
set_option linter.unusedSimpArgs false
set_option linter.unusedVariables false
namespace Go.Proofs.YtmdkgajjekbanaaDoor
open Go.RowKit

theorem evput_self {a : Act} {d : Nat} {v : Value} (h : d < a.tmps.size) : (a.put (some d) v).eval (.tmp d) = v := by
 simp [Act.put, Act.eval, Array.getD, h]
theorem put_size (a : Act) (d : Option Tmp) (v : Value) : (a.put d v).tmps.size = a.tmps.size := by
 cases d <;> simp [Act.put]
theorem put_defers (a : Act) (d : Option Tmp) (v : Value) : (a.put d v).defers = a.defers := by
 cases d <;> rfl

section
variable {D : Nat → Prop} {nu : Nat → Nat → Value} {o : List (Option AObj)} {w : World} {P : Program}
theorem RAs.put {t : List AV} {tm : Array Value} (h : RAs D nu o w t tm) {r : AV} {v : Value} (hr : RA D nu o w r v) (d : Nat) : RAs D nu o w (t.set d r) (tm.setIfInBounds d v) := by
 refine ⟨by simpa using h.len, fun i c x h1 h2 => ?_⟩
 by_cases hd : d = i
 ·subst hd
  have hl := (List.getElem?_eq_some_iff.1 h1).1
  simp only [List.length_set] at hl
  rw [List.getElem?_set_self hl] at h1
  rw [Array.getElem?_setIfInBounds_self_of_lt (by rw [← h.len]; exact hl)] at h2
  cases h1; cases h2; exact hr
 ·rw [List.getElem?_set_ne hd] at h1
  rw [Array.getElem?_setIfInBounds_ne hd] at h2
  exact h.at' i c x h1 h2
theorem RAs.putA {t : List AV} {a : Act} (h : RAs D nu o w t a.tmps) {r : AV} {v : Value} (hr : RA D nu o w r v) (d : Nat) : RAs D nu o w (t.set d r) (a.put (some d) v).tmps := h.put hr d
def ops3 (T U V : TypeId) (oc : Op) (ty : Nat → TypeId) (po : Nat → String) (af : Nat → Array Edge) (last : Oper) : List Oper :=
 [⟨some 22, .move (.tmp 5), ty 0, po 0, af 0, none⟩, ⟨some 23, .makeSlice T (.tmp 22) (.tmp 22), ty 1, po 1, af 1, none⟩, ⟨some 24, .move (.tmp 5), ty 2, po 2, af 2, none⟩, ⟨some 25, .makeSlice T (.tmp 24) (.tmp 24), ty 3, po 3, af 3, none⟩,
  ⟨some 26, .load U (.tmp 3), ty 4, po 4, af 4, none⟩, ⟨some 27, oc, ty 5, po 5, af 5, none⟩, ⟨some 28, .build V #[(0, .tmp 23), (1, .tmp 25), (2, .tmp 27)], ty 6, po 6, af 6, none⟩, ⟨some 6, .alloc V, ty 7, po 7, af 7, none⟩, last]
def slots2 (t : List AV) (ax : AV) : List AV := ((((t.set 22 .undef).set 23 .undef).set 24 .undef).set 25 .undef).set 26 ax
def slots3 (t : List AV) (N n : Nat) (em : Bool) : List AV :=
 ((((slots2 t .undef).set 27 .undef).set 28 (.agg [.vec N n, .vec (N + 1) n, .v (.bool em)])).set 6 (.ptr (N + 2) 0 3 0 0))
def spM (n0 : Nat) (m : MkR) : Spec := ⟨fun v w => MkP n0 m v w, fun _ _ _ hb h => h.below hb⟩
def spR (D : Nat → Prop) (nu : Nat → Nat → Value) (o : List (Option AObj)) (r : AV) : Spec := ⟨fun v w => RA D nu o w r v, fun _ _ _ hb h => h.mono (mono_below hb) (fun _ _ h => h)⟩
def spB (n0 : Nat) (m1 m3 : MkR) (em : Bool) : Spec := ⟨fun v w => ∃ v1 v3, v = .agg #[v1, v3, .bool em] ∧ MkP n0 m1 v1 w ∧ MkP n0 m3 v3 w ∧ ∀ b, blkOf v1 = some b → blkOf v3 ≠ some b, fun _ _ _ hb ⟨v1, v3, h1, h2, h3, h4⟩ => ⟨v1, v3, h1, h2.below hb, h3.below hb, h4⟩⟩
theorem MkP.lt {n0 : Nat} {m : MkR} {v : Value} (h : MkP n0 m v w) : ∀ b, blkOf v = some b → n0 ≤ b ∧ ∃ cur, w.heap[b]? = some (.cells cur m.e (0, 0)) := fun b hb => by
 obtain ⟨b', cap, cur, h1, h2, h3, _⟩ := h
 rw [h1, MkR.val_Of] at hb; cases hb
 exact ⟨h2, cur, h3⟩
theorem outR_imp {S S' : Spec} {r : Result Next} (h : OutR P S w r) (hi : ∀ v w', S.p v w' → S'.p v w') : OutR P S' w r := by
 revert h
 cases r with
 | halt _ _ => exact fun h => h
 | ok n w' =>
  cases n <;> first | exact fun h => h | skip
  case value u => exact fun h => ⟨hi _ _ h.1, h.2⟩
  case skip => exact fun h => ⟨hi _ _ h.1, h.2⟩
  case enter f args =>
   exact fun h => Calls.mono h fun e w'' he => by
    obtain ⟨v, rfl, hv, hb⟩ := he
    exact ⟨v, rfl, hi _ _ hv, hb⟩
theorem outR_run {S : Spec} {r : Sem Next} {v : Value} {w' : World} (h : r.run P w = .ok (.value v) w') (hs : S.p v w') (hb : Below w.heap.size w w') : OutR P S w (r.run P w) := by
 rw [h]; exact ⟨hs, hb⟩
theorem evR {a : Act} {t : List AV} {o : List (Option AObj)} {y : YSt} (hro : RO D nu o w) (h : RAs D nu o w t a.tmps) (y' : Operand) : RA D nu o w (AS.ev ⟨t, o, y⟩ y') (a.eval y') := by
 cases y' with
 | tmp t' =>
  simp only [AS.ev, Act.eval]
  rcases Nat.lt_or_ge t' t.length with hlt | hge
  ·have e1 : t[t']? = some t[t'] := List.getElem?_eq_getElem hlt
   have hlt' : t' < a.tmps.size := by rw [← h.len]; exact hlt
   rw [getD_some e1]
   have e2 : a.tmps.getD t' Go.undef = a.tmps[t'] := by simp [Array.getD, hlt']
   rw [e2]
   exact h.at' t' _ _ e1 (Array.getElem?_eq_getElem hlt')
  ·rw [List.getD_eq_getElem?_getD, List.getElem?_eq_none hge]
   exact .undef _
 | const v => exact .v v
 | global gi => exact glob_ra hro ⟨t, o, y⟩ gi
 | func f => exact .fn f [] [] #[] #[] rfl rfl (fun i c x h => by simp at h) (fun i c x h => by simp at h)
theorem ev_set {t : List AV} {o : List (Option AObj)} {y : YSt} {d i : Nat} {v : AV} (h : d ≠ i) : AS.ev ⟨t.set d v, o, y⟩ (.tmp i) = AS.ev ⟨t, o, y⟩ (.tmp i) := by
 simp [AS.ev, List.getD_eq_getElem?_getD, List.getElem?_set_ne h]
theorem ev_self {t : List AV} {o : List (Option AObj)} {y : YSt} {d : Nat} {v : AV} (h : d < t.length) : AS.ev ⟨t.set d v, o, y⟩ (.tmp d) = v := by
 simp [AS.ev, List.getD_eq_getElem?_getD, h]
theorem MkP.one {n0 : Nat} {m : MkR} {v : Value} (h : MkP n0 m v w) : v.oneCell' = true := by
 obtain ⟨b', cap, cur, h1, _⟩ := h
 rw [h1, MkR.val]; split <;> rfl
set_option maxHeartbeats 2000000 in
theorem awp_part3 {n0 id n z : Nat} {s : AS} {Q : AExit → AS → Prop} {T U V : TypeId} {oc : Op} {ty : Nat → TypeId} {po : Nat → String} {af : Nat → Array Edge} {last : Oper} {ax : AV} {em : Bool} {p1 p7 : Prop} {e : TypeId} {zc zr : List AV}
  (hB : relTB (ops3 T U V oc ty po af last).toArray 8 = true) (hC : calmB (ops3 T U V oc ty po af last).toArray = true)
  (hdp : depB (ops3 T U V oc ty po af last).toArray 1 0 = true ∧ depB (ops3 T U V oc ty po af last).toArray 3 2 = true ∧ depB (ops3 T U V oc ty po af last).toArray 5 4 = true ∧ depB (ops3 T U V oc ty po af last).toArray 6 1 = true ∧ depB (ops3 T U V oc ty po af last).toArray 6 3 = true ∧ depB (ops3 T U V oc ty po af last).toArray 6 5 = true)
  (hlen : 29 ≤ s.t.length) (hmv : s.ev (.tmp 5) = .v (.int .i64 n)) (hm1 : aMkS P T (.v (.int .i64 n)) (.v (.int .i64 n)) = some (p1, e, z, n, zc)) (hp1 : p1) (hal : aAlS P V = some (p7, V, 3, 1, zr)) (heV : e ≠ V)
  (hld : ADoS P (.load U (.tmp 3)) s (fun r => r = ax)) (hcl : ADoS P oc ⟨slots2 s.t ax, s.o, s.y⟩ (fun r => r = .v (.bool em)))
  (hbd : ∀ v1 v3 : Value, v1.oneCell' = true → v3.oneCell' = true → aBuild P V [(0, .v v1), (1, .v v3), (2, .v (.bool em))] = some (.agg [.v v1, .v v3, .v (.bool em)]))
  (h : ATail P (ops3 T U V oc ty po af last) [last] ⟨slots3 s.t s.o.length n em, s.o ++ [some ⟨e, z, true, List.replicate n zc⟩, some ⟨e, z, true, List.replicate n zc⟩, some ⟨V, 3, false, [zr]⟩], s.y⟩ (Q .normal)) :
  AWp P n0 (.region id (ops3 T U V oc ty po af last).toArray true) s Q := by
 refine .inr (fun f m D nu a w hZr hn hm hs hmx R hO hR => ?_)
 have hs0 := hs.drew
 obtain ⟨d10, d32, d54, d61, d63, d65⟩ := hdp
 have hsz : a.tmps.size = s.t.length := hs.tm.len.symm
 have hwant : ∀ (i : Nat) (oo : Oper) (a' : Act), oo.guard = none → Region.wanted oo (yielded (ops3 T U V oc ty po af last).toArray a'.tmps) = true := fun i oo a' hg => by simp [Region.wanted, hg]
 -- the activation, when all of the first so many are done
 have base : ∀ wr, Below w.drew.heap.size w.drew wr → RO D nu s.o wr ∧ RAs D nu s.o wr s.t a.tmps := fun wr hE => ⟨hs0.ro.below hE, hs0.tm.mono (mono_below hE) (fun _ _ h => h)⟩
 refine wpIn_any hmx hC hO (any_region_tailF [spR D nu s.o (.v (.int .i64 n)), spM w.drew.heap.size ⟨23, 1, e, z, n, zc, false⟩, spR D nu s.o (.v (.int .i64 n)), spM w.drew.heap.size ⟨25, 3, e, z, n, zc, false⟩, spR D nu s.o ax, spR D nu s.o (.v (.bool em)), spB w.drew.heap.size ⟨23, 1, e, z, n, zc, false⟩ ⟨25, 3, e, z, n, zc, false⟩ em, spM w.drew.heap.size ⟨6, 7, V, 3, 1, zr, true⟩]
  (fun i => i == 1 || i == 3 || i == 7) (fun i v w1 hf hp b hb => ?_) 8 hB ⟨fun x wr hE hD hP => ?_, fun x wr hE hD hP => ?_, fun x wr hE hD hP => ?_, fun x wr hE hD hP => ?_, fun x wr hE hD hP => ?_, fun x wr hE hD hP => ?_, fun x wr hE hD hP => ?_, fun x wr hE hD hP => ?_, fun x wr hE hD hP => ?_⟩)
 ·simp only [Bool.or_eq_true, beq_iff_eq] at hf
  rcases hf with (rfl | rfl) | rfl <;> exact (Array.getElem?_eq_some_iff.1 ((MkP.lt hp b hb).2.choose_spec)).1
 ·refine .inl ⟨hwant 0 _ _ rfl, ?_⟩
  obtain ⟨hro, hra⟩ := base wr hE
  obtain ⟨r, rfl, hout⟩ := adoS_good (P := P) (s := s) (rho := a.eval) (oo := ⟨some 22, .move (.tmp 5), ty 0, po 0, af 0, none⟩) (K := fun r => r = .v (.int .i64 n)) hro (fun y _ => evR hro hra y) ⟨trivial, hmv⟩
  exact outR_imp hout (fun v w' hv => ⟨hv.2, fun h => absurd h (by decide)⟩)
 ·refine .inl ⟨hwant 1 _ _ rfl, ?_⟩
  obtain ⟨hro, hra⟩ := base wr hE
  have h0 : RA D nu s.o wr (.v (.int .i64 n)) (x 0) := hD 0 d10
  have e0 : (a.put (some 22) (x 0)).eval (.tmp 22) = x 0 := evput_self (by omega)
  obtain ⟨v, w', h1, h2, h3⟩ := aMkS_good (P := P) (w := wr) h0 h0 hm1 hp1 23 1
  have hrun : (execOp (a.put (some 22) (x 0)).eval ⟨some 23, .makeSlice T (.tmp 22) (.tmp 22), ty 1, po 1, af 1, none⟩).run P wr = .ok (.value v) w' := by
   simp only [execOp, e0, Sem.run_bind, h1, Result.andThen_ok, Sem.run_pure]
  show OutR P _ wr ((execOp (a.put (some 22) (x 0)).eval ⟨some 23, .makeSlice T (.tmp 22) (.tmp 22), ty 1, po 1, af 1, none⟩).run P wr)
  rw [hrun]
  obtain ⟨b, cap, cur, k1, k2, k3⟩ := h3
  exact ⟨⟨⟨b, cap, cur, k1, Nat.le_trans hE.size k2, k3⟩, fun _ b' hb => by rw [k1, MkR.val_Of] at hb; cases hb; exact k2⟩, h2⟩
 ·refine .inl ⟨hwant 2 _ _ rfl, ?_⟩
  obtain ⟨hro, hra⟩ := base wr hE
  have hr2 := (hra.putA (.undef (x 0)) 22).putA (.undef (x 1)) 23
  obtain ⟨r, rfl, hout⟩ := adoS_good (P := P) (s := ⟨(s.t.set 22 .undef).set 23 .undef, s.o, s.y⟩) (rho := ((a.put (some 22) (x 0)).put (some 23) (x 1)).eval) (oo := ⟨some 24, .move (.tmp 5), ty 2, po 2, af 2, none⟩) (K := fun r => r = .v (.int .i64 n)) hro (fun y _ => evR hro hr2 y)
   ⟨trivial, by rw [ev_set (by decide), ev_set (by decide)]; exact hmv⟩
  exact outR_imp hout (fun v w' hv => ⟨hv.2, fun h => absurd h (by decide)⟩)
 ·refine .inl ⟨hwant 3 _ _ rfl, ?_⟩
  have h0 : RA D nu s.o wr (.v (.int .i64 n)) (x 2) := hD 2 d32
  have e0 : (((a.put (some 22) (x 0)).put (some 23) (x 1)).put (some 24) (x 2)).eval (.tmp 24) = x 2 := evput_self (by rw [put_size, put_size]; omega)
  obtain ⟨v, w', h1, h2, h3⟩ := aMkS_good (P := P) (w := wr) h0 h0 hm1 hp1 25 3
  have hrun : (execOp (((a.put (some 22) (x 0)).put (some 23) (x 1)).put (some 24) (x 2)).eval ⟨some 25, .makeSlice T (.tmp 24) (.tmp 24), ty 3, po 3, af 3, none⟩).run P wr = .ok (.value v) w' := by
   simp only [execOp, e0, Sem.run_bind, h1, Result.andThen_ok, Sem.run_pure]
  show OutR P _ wr ((execOp (((a.put (some 22) (x 0)).put (some 23) (x 1)).put (some 24) (x 2)).eval ⟨some 25, .makeSlice T (.tmp 24) (.tmp 24), ty 3, po 3, af 3, none⟩).run P wr)
  rw [hrun]
  obtain ⟨b, cap, cur, k1, k2, k3⟩ := h3
  exact ⟨⟨⟨b, cap, cur, k1, Nat.le_trans hE.size k2, k3⟩, fun _ b' hb => by rw [k1, MkR.val_Of] at hb; cases hb; exact k2⟩, h2⟩
 ·refine .inl ⟨hwant 4 _ _ rfl, ?_⟩
  obtain ⟨hro, hra⟩ := base wr hE
  have hr4 := (((hra.putA (.undef (x 0)) 22).putA (.undef (x 1)) 23).putA (.undef (x 2)) 24).putA (.undef (x 3)) 25
  obtain ⟨r, rfl, hout⟩ := adoS_good (P := P) (s := ⟨(((s.t.set 22 .undef).set 23 .undef).set 24 .undef).set 25 .undef, s.o, s.y⟩) (rho := ((((a.put (some 22) (x 0)).put (some 23) (x 1)).put (some 24) (x 2)).put (some 25) (x 3)).eval) (oo := ⟨some 26, .load U (.tmp 3), ty 4, po 4, af 4, none⟩) (K := fun r => r = ax) hro (fun y _ => evR hro hr4 y)
   (by simp only [ADoS, aopS, aopP, ev_set (show 22 ≠ 3 by decide), ev_set (show 23 ≠ 3 by decide), ev_set (show 24 ≠ 3 by decide), ev_set (show 25 ≠ 3 by decide)] at hld ⊢; exact hld)
  exact outR_imp hout (fun v w' hv => ⟨hv.2, fun h => absurd h (by decide)⟩)
 ·refine .inl ⟨hwant 5 _ _ rfl, ?_⟩
  obtain ⟨hro, hra⟩ := base wr hE
  have h4 : RA D nu s.o wr ax (x 4) := hD 4 d54
  have hr5 := ((((hra.putA (.undef (x 0)) 22).putA (.undef (x 1)) 23).putA (.undef (x 2)) 24).putA (.undef (x 3)) 25).putA h4 26
  obtain ⟨r, rfl, hout⟩ := adoS_good (P := P) (s := ⟨slots2 s.t ax, s.o, s.y⟩) (rho := (((((a.put (some 22) (x 0)).put (some 23) (x 1)).put (some 24) (x 2)).put (some 25) (x 3)).put (some 26) (x 4)).eval) (oo := ⟨some 27, oc, ty 5, po 5, af 5, none⟩) (K := fun r => r = .v (.bool em)) hro (fun y _ => evR hro hr5 y) hcl
  exact outR_imp hout (fun v w' hv => ⟨hv.2, fun h => absurd h (by decide)⟩)
 ·refine .inl ⟨hwant 6 _ _ rfl, ?_⟩
  obtain ⟨hro, hra⟩ := base wr hE
  have h1 : MkP w.drew.heap.size ⟨23, 1, e, z, n, zc, false⟩ (x 1) wr := hD 1 d61
  have h3 : MkP w.drew.heap.size ⟨25, 3, e, z, n, zc, false⟩ (x 3) wr := hD 3 d63
  have h5 : RA D nu s.o wr (.v (.bool em)) (x 5) := hD 5 d65
  have hne := hP 1 3 d61 d63 (by decide) rfl rfl
  have hr6 := (((((hra.putA (.undef (x 0)) 22).putA (.v (x 1)) 23).putA (.undef (x 2)) 24).putA (.v (x 3)) 25).putA (.undef (x 4)) 26).putA h5 27
  have hb := hbd (x 1) (x 3) h1.one h3.one
  obtain ⟨v, q1, q2⟩ := aopP_good (P := P) (ev := AS.ev ⟨(((((s.t.set 22 .undef).set 23 (.v (x 1))).set 24 .undef).set 25 (.v (x 3))).set 26 .undef).set 27 (.v (.bool em)), s.o, s.y⟩) (rho := ((((((a.put (some 22) (x 0)).put (some 23) (x 1)).put (some 24) (x 2)).put (some 25) (x 3)).put (some 26) (x 4)).put (some 27) (x 5)).eval)
   (oo := ⟨some 28, .build V #[(0, .tmp 23), (1, .tmp 25), (2, .tmp 27)], ty 6, po 6, af 6, none⟩) hro (fun y _ => evR hro hr6 y) (p := True) (r := .agg [.v (x 1), .v (x 3), .v (.bool em)]) (by
    have e1 : AS.ev ⟨(((((s.t.set 22 .undef).set 23 (.v (x 1))).set 24 .undef).set 25 (.v (x 3))).set 26 .undef).set 27 (.v (.bool em)), s.o, s.y⟩ (.tmp 23) = .v (x 1) := by
     rw [ev_set (by decide), ev_set (by decide), ev_set (by decide), ev_set (by decide)]; exact ev_self (by simp; omega)
    have e3 : AS.ev ⟨(((((s.t.set 22 .undef).set 23 (.v (x 1))).set 24 .undef).set 25 (.v (x 3))).set 26 .undef).set 27 (.v (.bool em)), s.o, s.y⟩ (.tmp 25) = .v (x 3) := by
     rw [ev_set (by decide), ev_set (by decide)]; exact ev_self (by simp; omega)
    have e5 : AS.ev ⟨(((((s.t.set 22 .undef).set 23 (.v (x 1))).set 24 .undef).set 25 (.v (x 3))).set 26 .undef).set 27 (.v (.bool em)), s.o, s.y⟩ (.tmp 27) = .v (.bool em) := ev_self (by simp; omega)
    simp only [aopP, List.map_cons, List.map_nil, e1, e3, e5, hb]) trivial
  have q3 := agg_vals (xs := [x 1, x 3, .bool em]) q2
  show OutR P _ wr ((execOp ((((((a.put (some 22) (x 0)).put (some 23) (x 1)).put (some 24) (x 2)).put (some 25) (x 3)).put (some 26) (x 4)).put (some 27) (x 5)).eval ⟨some 28, .build V #[(0, .tmp 23), (1, .tmp 25), (2, .tmp 27)], ty 6, po 6, af 6, none⟩).run P wr)
  rw [q1]
  exact ⟨⟨⟨x 1, x 3, q3, h1, h3, hne⟩, fun h => absurd h (by decide)⟩, .refl _ _⟩
 ·refine .inl ⟨hwant 7 _ _ rfl, ?_⟩
  obtain ⟨v, w', h1, h2, h3⟩ := aAlS_good (P := P) (w := wr) hal 6 7
  refine outR_run (v := v) (w' := w') (by simp only [execOp, Sem.run_bind, h1, Result.andThen_ok, Sem.run_pure]) ?_ h2
  obtain ⟨b, cap, cur, k1, k2, k3⟩ := h3
  exact ⟨⟨b, cap, cur, k1, Nat.le_trans hE.size k2, k3⟩, fun _ b' hb => by rw [k1, MkR.val_Of] at hb; cases hb; exact k2⟩
 ·obtain ⟨hro, hra⟩ := base wr hE
  obtain ⟨v1, v3, e6, m1, m3, hne⟩ : (spB w.drew.heap.size ⟨23, 1, e, z, n, zc, false⟩ ⟨25, 3, e, z, n, zc, false⟩ em).p (x 6) wr := hD 6 (by decide)
  have m7 : MkP w.drew.heap.size ⟨6, 7, V, 3, 1, zr, true⟩ (x 7) wr := hD 7 (by decide)
  have hdiff : ∀ v (mm : MkR), mm.e = e → MkP w.drew.heap.size mm v wr → ∀ b, blkOf v = some b → blkOf (x 7) ≠ some b := fun v mm he hm b h1 h2 => by
   obtain ⟨c1, k1⟩ := (hm.lt b h1).2
   obtain ⟨c2, k2⟩ := (m7.lt b h2).2
   rw [k1] at k2
   simp only [Option.some.injEq, Obj.cells.injEq, and_true] at k2
   exact heV (he.symm.trans k2.2)
  obtain ⟨hmo, hro', hcl'⟩ := claim_RO hs0.ro hE [⟨23, 1, e, z, n, zc, false⟩, ⟨25, 3, e, z, n, zc, false⟩, ⟨6, 7, V, 3, 1, zr, true⟩] (fun i => if i = 0 then v1 else if i = 1 then v3 else x 7) (fun i mm hi => by
   match i, hi with
   | 0, hi => cases hi; exact m1
   | 1, hi => cases hi; exact m3
   | 2, hi => cases hi; exact m7
   | i + 3, hi => simp at hi) (fun i j hi hj hij b hb => by
   simp only [List.length_cons, List.length_nil] at hi hj
   match i, j, hi, hj, hij, hb with
   | 0, 0, _, _, h, _ => exact absurd rfl h
   | 0, 1, _, _, _, hb => exact hne b hb
   | 0, 2, _, _, _, hb => exact hdiff v1 _ rfl m1 b hb
   | 1, 0, _, _, _, hb => exact fun h => hne b h hb
   | 1, 1, _, _, h, _ => exact absurd rfl h
   | 1, 2, _, _, _, hb => exact hdiff v3 _ rfl m3 b hb
   | 2, 0, _, _, _, hb => exact fun h => hdiff v1 _ rfl m1 b h hb
   | 2, 1, _, _, _, hb => exact fun h => hdiff v3 _ rfl m3 b h hb
   | 2, 2, _, _, h, _ => exact absurd rfl h
   | i + 3, _, h, _, _, _ => omega
   | _, j + 3, _, h, _, _ => omega)
  have c0 := hcl' 0 _ rfl
  have c1 := hcl' 1 _ rfl
  have c2 := hcl' 2 _ rfl
  generalize nuP nu s.o.length (fun i => if i = 0 then v1 else if i = 1 then v3 else x 7) = nu2 at *
  have hra2 := hs0.tm.mono hmo (fun _ _ h => h)
  simp only [MkR.av, MkR.ob, Bool.not_false, Bool.not_true, if_true, Bool.false_eq_true, if_false, Nat.add_zero, List.map_cons, List.map_nil, Nat.one_ne_zero, List.replicate_succ, List.replicate_zero] at c0 c1 c2 hmo hro' hra2
  have c2 : RA D nu2 _ wr (.ptr (s.o.length + 2) 0 3 0 0) (x 7) := c2
  have hagg : RA D nu2 (s.o ++ [some ⟨e, z, true, List.replicate n zc⟩, some ⟨e, z, true, List.replicate n zc⟩, some ⟨V, 3, false, [zr]⟩]) wr (.agg [.vec s.o.length n, .vec (s.o.length + 1) n, .v (.bool em)]) (x 6) := by
   rw [e6]
   refine .agg _ _ rfl (fun i c y h1 h2 => ?_) (fun i y h2 => ?_)
   ·match i, h1, h2 with
    | 0, h1, h2 => cases h1; cases h2; exact c0
    | 1, h1, h2 => cases h1; cases h2; exact c1
    | 2, h1, h2 => cases h1; cases h2; exact .v _
    | i + 3, h1, h2 => simp at h1
   ·match i, h2 with
    | 0, h2 => cases h2; exact m1.one
    | 1, h2 => cases h2; exact m3.one
    | 2, h2 => cases h2; rfl
    | i + 3, h2 => simp at h2
  have hra8 : RAs D nu2 (s.o ++ [some ⟨e, z, true, List.replicate n zc⟩, some ⟨e, z, true, List.replicate n zc⟩, some ⟨V, 3, false, [zr]⟩]) wr (slots3 s.t s.o.length n em) ((((((((a.put (some 22) (x 0)).put (some 23) (x 1)).put (some 24) (x 2)).put (some 25) (x 3)).put (some 26) (x 4)).put (some 27) (x 5)).put (some 28) (x 6)).put (some 6) (x 7)).tmps := by
   refine RAs.putA ?_ c2 6
   refine RAs.putA ?_ hagg 28
   refine RAs.putA ?_ (.undef (x 5)) 27
   refine RAs.putA ?_ (.undef (x 4)) 26
   refine RAs.putA ?_ (.undef (x 3)) 25
   refine RAs.putA ?_ (.undef (x 2)) 24
   refine RAs.putA ?_ (.undef (x 1)) 23
   refine RAs.putA ?_ (.undef (x 0)) 22
   exact hra2
  generalize hA : ((((((((a.put (some 22) (x 0)).put (some 23) (x 1)).put (some 24) (x 2)).put (some 25) (x 3)).put (some 26) (x 4)).put (some 27) (x 5)).put (some 28) (x 6)).put (some 6) (x 7)) = a8 at hra8
  have hd8 : a8.defers = a.defers := by rw [← hA]; simp only [put_defers]
  show wpOps P (ops3 T U V oc ty po af last).toArray R (List.range' 8 ((ops3 T U V oc ty po af last).toArray.size - 8)) ((((((((a.put (some 22) (x 0)).put (some 23) (x 1)).put (some 24) (x 2)).put (some 25) (x 3)).put (some 26) (x 4)).put (some 27) (x 5)).put (some 28) (x 6)).put (some 6) (x 7)) wr
  rw [hA]
  have hs8 : RS f D nu2 ⟨slots3 s.t s.o.length n em, s.o ++ [some ⟨e, z, true, List.replicate n zc⟩, some ⟨e, z, true, List.replicate n zc⟩, some ⟨V, 3, false, [zr]⟩], s.y⟩ a8 wr :=
   ⟨hro', hra8, by rw [hd8]; exact hs0.dfr.mono hs0.ro (mono_below hE)⟩
  exact atail_good (P := P) (f := f) (l := ops3 T U V oc ty po af last) (R := R) [last] 8 _ _ wr nu2 rfl (show 8 ≤ 9 by omega) hs8 h (fun s' a' w' nu' q1 q2 q3 q4 => hR .normal D f.Z s' a' w' nu' (by rw [q2]; exact m.own hm hs.ro ((mono_below (below_drew w)).trans (hmo.trans q1)) q3.ro) q3 q4)
theorem awp_part3l {n0 id n z : Nat} {s : AS} {Q : AExit → AS → Prop} {l : List Oper} (T U V : TypeId) (oc : Op) {ax : AV} {em : Bool} {p1 p7 : Prop} {e : TypeId} {zc zr : List AV}
  (hl : l = ops3 T U V oc (fun i => (l.getD i default).type) (fun i => (l.getD i default).pos) (fun i => (l.getD i default).after) (l.getD 8 default))
  (hB : relTB l.toArray 8 = true) (hC : calmB l.toArray = true)
  (hdp : depB l.toArray 1 0 = true ∧ depB l.toArray 3 2 = true ∧ depB l.toArray 5 4 = true ∧ depB l.toArray 6 1 = true ∧ depB l.toArray 6 3 = true ∧ depB l.toArray 6 5 = true)
  (hlen : 29 ≤ s.t.length) (hmv : s.ev (.tmp 5) = .v (.int .i64 n)) (hm1 : aMkS P T (.v (.int .i64 n)) (.v (.int .i64 n)) = some (p1, e, z, n, zc)) (hp1 : p1) (hal : aAlS P V = some (p7, V, 3, 1, zr)) (heV : e ≠ V)
  (hld : ADoS P (.load U (.tmp 3)) s (fun r => r = ax)) (hcl : ADoS P oc ⟨slots2 s.t ax, s.o, s.y⟩ (fun r => r = .v (.bool em)))
  (hbd : ∀ v1 v3 : Value, v1.oneCell' = true → v3.oneCell' = true → aBuild P V [(0, .v v1), (1, .v v3), (2, .v (.bool em))] = some (.agg [.v v1, .v v3, .v (.bool em)]))
  (h : ATail P l [l.getD 8 default] ⟨slots3 s.t s.o.length n em, s.o ++ [some ⟨e, z, true, List.replicate n zc⟩, some ⟨e, z, true, List.replicate n zc⟩, some ⟨V, 3, false, [zr]⟩], s.y⟩ (Q .normal)) :
  AWp P n0 (.region id l.toArray true) s Q := by
 generalize (fun i => (l.getD i default).type) = ty at hl
 generalize (fun i => (l.getD i default).pos) = po at hl
 generalize (fun i => (l.getD i default).after) = af at hl
 generalize l.getD 8 default = last at hl h
 subst hl
 exact awp_part3 hB hC hdp hlen hmv hm1 hp1 hal heV hld hcl hbd h
end
end Go.Proofs.YtmdkgajjekbanaaDoor
