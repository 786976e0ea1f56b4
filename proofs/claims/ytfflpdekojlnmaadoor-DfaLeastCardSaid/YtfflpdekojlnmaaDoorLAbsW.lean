/- A region that draws its order, makes rows, in whatever order, and then goes on one behind the other. No program is named here. -/
import Derived.Test.YtfflpdekojlnmaaDoorLAbsZ
set_option linter.unusedSimpArgs false
set_option linter.unusedVariables false
namespace Go.Proofs.YtfflpdekojlnmaaDoor
open Go.RowKit

structure MkR where
 d : Tmp
 k : Nat
 e : TypeId
 z : Nat
 n : Nat
 zc : List AV
 bx : Bool := false
def MkR.ob (m : MkR) : AObj := ⟨m.e, m.z, !m.bx, List.replicate m.n m.zc⟩
def MkR.av (m : MkR) (id : Nat) : AV := if m.bx then .ptr id 0 m.z 0 0 else .vec id m.n
def MkR.val (m : MkR) (b cap : Nat) : Value := if m.bx then .pointer (some ⟨b, 0, none⟩) else .slice (some ⟨b, 0, none⟩) m.n cap
def MkP (n0 : Nat) (m : MkR) (v : Value) (w : World) : Prop := ∃ b cap cur, v = m.val b cap ∧ n0 ≤ b ∧ w.heap[b]? = some (.cells cur m.e (0, 0)) ∧ m.n ≤ cap ∧ cap ≤ maxLen ∧ cur.size = cap * m.z ∧ 0 < m.z ∧ m.zc.length = m.z ∧ (m.bx = true → m.n = 1 ∧ cap = 1) ∧
 ∀ (i j : Nat) c x, i < m.n → m.zc[j]? = some c → cur[i * m.z + j]? = some x → c = .v x ∧ x.oneCell' = true

section
variable {D : Nat → Prop} {nu : Nat → Nat → Value} {o : List (Option AObj)} {w : World} {P : Program}

/-! ### the rule -/
def mkT : List AV → Nat → List MkR → List AV
 | t, _, [] => t
 | t, N, m :: l => mkT (t.set m.d (m.av N)) (N + 1) l
def mkDone (s : AS) (ms : List MkR) : AS := ⟨mkT s.t s.o.length ms, s.o ++ ms.map (fun m => some m.ob), s.y⟩

def AV.cal : AV → AV
 | .v x => .v x
 | .ptr a b c d e => .ptr a b c d e
 | .vec a b => .vec a b
 | .agg cs => if AV.flat (.agg cs) then .agg cs else .undef
 | .wit _ (.v x) => .v x
 | _ => .undef
theorem RA.cal {D' : Nat → Prop} {nu' : Nat → Nat → Value} {o' : List (Option AObj)} {w' : World} (hh : ∀ id len, hdrOk o id len → hdrOk o' id len ∧ nu' id len = nu id len) {c : AV} {x : Value} (h : RA D nu o w c x) : RA D' nu' o' w' c.cal x := by
 cases h with
 | v => exact .v _
 | ptr id len z row off b h1 h2 => exact .ptr id len z row off b (hh _ _ h1).1 (by rw [(hh _ _ h1).2]; exact h2)
 | vec id len h1 h2 =>
  rw [← (hh _ _ h1).2] at h2 ⊢
  exact .vec id len (hh _ _ h1).1 h2
 | agg cs xs h1 h2 h3 =>
  simp only [AV.cal]
  split
  ·rename_i hf
   exact (RA.agg cs xs h1 h2 h3 : RA D nu o w _ _).flat hf
  ·exact .undef _
 | wit p a x S h0 h1 hc h2 h3 =>
  cases a with
  | v y => cases h3; exact .v _
  | _ => exact .undef _
 | _ => exact .undef _
def calT : List Tmp → List AV → List AV
 | [], t => t
 | d :: ds, t => calT ds (t.set d (t.getD d .undef).cal)

def aMkS (P : Program) (T : TypeId) (n c : AV) : Option (Prop × TypeId × Nat × Nat × List AV) :=
 match P.underlying T, n, c with
 | some (.slice e), .v (.int _ l), .v (.int _ m) => match tApp P T, tZero P e with
  | some (_, z, bytes), some zr => some (0 ≤ l ∧ l ≤ m ∧ m.toNat * bytes ≤ 140737488355328 ∧ m.toNat ≤ 140737488355328, e, z, l.toNat, zr)
  | _, _ => none
 | _, _, _ => none

def aAlS (P : Program) (T : TypeId) : Option (Prop × TypeId × Nat × Nat × List AV) :=
 match tZero P T with
 | some zr => if 0 < zr.length then some (True, T, zr.length, 1, zr) else none
 | none => none

def AMk (g : Option (Nat × Bool)) (d : Option Tmp) (N : Nat) (x : Option (Prop × TypeId × Nat × Nat × List AV)) (K : Tmp → TypeId → Nat → Nat → List AV → Prop) : Prop := match g, d, x with
 | none, some d, some (p, e, z, n, zc) => (p ∧ d < N) ∧ K d e z n zc
 | _, _, _ => False
theorem AMk_some (d N : Nat) (p : Prop) (e : TypeId) (z n : Nat) (zc : List AV) (K : Tmp → TypeId → Nat → Nat → List AV → Prop) : AMk none (some d) N (some (p, e, z, n, zc)) K = ((p ∧ d < N) ∧ K d e z n zc) := rfl
@[congr] theorem AMk_congr {g : Option (Nat × Bool)} {d : Option Tmp} {N N' : Nat} {x x' : Option (Prop × TypeId × Nat × Nat × List AV)} {K : Tmp → TypeId → Nat → Nat → List AV → Prop} (h : N = N') (k : x = x') : AMk g d N x K = AMk g d N' x' K := by rw [h, k]
def ADrawM (P : Program) (all tail : List Oper) : List Oper → Nat → AS → List MkR → List Tmp → (AS → Prop) → Prop
 | [], _, s, ms, ds, Q => ATail P all tail (mkDone ⟨calT ds s.t, s.o, s.y⟩ ms) Q
 | oo :: rest, k, s, ms, ds, Q => match oo.op with
  | .makeSlice T n c => AMk oo.guard oo.dst s.t.length (aMkS P T (s.ev n) (s.ev c)) (fun d e z l zc => ADrawM P all tail rest (k + 1) (s.put (some d) .undef s.o) (ms ++ [⟨d, k, e, z, l, zc, false⟩]) ds Q)
  | .alloc T => AMk oo.guard oo.dst s.t.length (aAlS P T) (fun d e z l zc => ADrawM P all tail rest (k + 1) (s.put (some d) .undef s.o) (ms ++ [⟨d, k, e, z, l, zc, true⟩]) ds Q)
  | _ => match oo.guard with
   | none => ADoS P oo.op s (fun r => ADrawM P all tail rest (k + 1) (s.put oo.dst r s.o) ms (oo.dst.toList ++ ds) Q)
   | some (j, want) => AGd (gval all s j) want (ADoS P oo.op s (fun r => ADrawM P all tail rest (k + 1) (s.put oo.dst r s.o) ms (oo.dst.toList ++ ds) Q)) (ADrawM P all tail rest (k + 1) (s.put oo.dst (.v Go.undef) s.o) ms (oo.dst.toList ++ ds) Q)

structure MInv (l : List Oper) (s : AS) (a : Act) (k : Nat) (sk : AS) (rs : List (AV × Option MkR)) (A : (Nat → Value) → Act) (ms : List MkR) (ds : List Tmp) : Prop extends DInv l s a k sk (rs.map Prod.fst) A where
 row : ∀ m, m ∈ ms → m.k < k ∧ rs[m.k]? = some (.undef, some m) ∧ (∃ oi, l[m.k]? = some oi ∧ oi.dst = some m.d) ∧ ∀ x, (A x).tmps[m.d]? = some (x m.k)
 nod : (ms.map MkR.k).Nodup
 rowU : ∀ (i : Nat) r m, rs[i]? = some (r, some m) → r = .undef
 dst : ∀ (i : Nat) (oi : Oper) d r, i < k → l[i]? = some oi → oi.dst = some d → rs[i]? = some (r, none) → d ∈ ds

/-! ### a call that is given own rows: they are let go, and stay -/
def aGive : List (Option AObj) → List AV → Option (Prop × List AV × List (Option AObj))
 | o, [] => some (True, [], o)
 | o, .vec id len :: l => match o[id]? with
  | some (some ob) => match aGive (o.set id none) l with
   | some (p, m, o') => some ((ob.isV = true ∧ ob.rows.length = len ∧ wfR 0 ob.rows = true) ∧ p, .slc ob.z ob.rows len :: m, o')
   | none => none
  | _ => none
 | o, a :: l => match aGive o l with
  | some (p, m, o') => some (a.wf 0 = true ∧ p, a :: m, o')
  | none => none
theorem give_good : ∀ (args : List AV) {o : List (Option AObj)} {p : Prop} {args' : List AV} {o' : List (Option AObj)}, aGive o args = some (p, args', o') → p → RO D nu o w → Mono nu o w nu o' w ∧ RO D nu o' w ∧ args.length = args'.length ∧
  ∀ (i : Nat) a b x, args[i]? = some a → args'[i]? = some b → RA D nu o w a x → RA D nu o' w b x
 | [], o, p, args', o', he, hp, h => by
  simp only [aGive, Option.some.injEq, Prod.mk.injEq] at he
  obtain ⟨rfl, rfl, rfl⟩ := he
  exact ⟨.refl _ _ _, h, rfl, fun i a b x h => by simp at h⟩
 | a :: l, o, p, args', o', he, hp, h => by
  have plain : (match aGive o l with
   | some (p, m, o') => some (a.wf 0 = true ∧ p, a :: m, o')
   | none => none) = some (p, args', o') → Mono nu o w nu o' w ∧ RO D nu o' w ∧ (a :: l).length = args'.length ∧ ∀ (i : Nat) c b x, (a :: l)[i]? = some c → args'[i]? = some b → RA D nu o w c x → RA D nu o' w b x := fun he => by
   cases hg : aGive o l with
   | none => rw [hg] at he; cases he
   | some y =>
    obtain ⟨q, m, o2⟩ := y
    rw [hg] at he
    simp only [Option.some.injEq, Prod.mk.injEq] at he
    obtain ⟨rfl, rfl, rfl⟩ := he
    obtain ⟨k1, k2, k3, k4⟩ := give_good l hg hp.2 h
    refine ⟨k1, k2, by simp [k3], fun i c b x q1 q2 hr => ?_⟩
    cases i with
    | zero => simp at q1 q2; subst q1; subst q2; exact hr.mono k1 (fun _ _ h => h)
    | succ i => exact k4 i c b x (by simpa using q1) (by simpa using q2) hr
  cases a with
  | vec id len =>
   simp only [aGive] at he
   split at he
   ·rename_i ob ho
    cases hg : aGive (o.set id none) l with
    | none => rw [hg] at he; cases he
    | some y =>
     obtain ⟨q, m, o2⟩ := y
     rw [hg] at he
     simp only [Option.some.injEq, Prod.mk.injEq] at he
     obtain ⟨rfl, rfl, rfl⟩ := he
     obtain ⟨⟨hv, rfl, hw⟩, hq⟩ := hp
     have hm := kill_mono (nu := nu) (o := o) (w := w) id
     obtain ⟨k1, k2, k3, k4⟩ := give_good l hg hq (kill_RO h id)
     refine ⟨hm.trans k1, k2, by simp [k3], fun i c b x q1 q2 hr => ?_⟩
     cases i with
     | zero =>
      simp at q1 q2; subst q1; subst q2
      cases hr
      exact (vec_slc h ho hv).mono k1 (fun _ _ h => h)
     | succ i => exact k4 i c b x (by simpa using q1) (by simpa using q2) (hr.mono hm (fun _ _ h => h))
   ·cases he
  | _ => exact plain he
theorem ACallV.give {f : FuncId} {args args' : List AV} {o' : List (Option AObj)} {r : AV} {p : Prop} {K : AV → List (Option AObj) → Prop} (h : Call1 P f args' r) (hz : aGive o args = some (p, args', o')) (hp : p) (k : K r o') : ACallV P f args o K := by
 refine .inr (.inr ⟨h.2.1, fun D nu w vargs hro hra => ?_⟩)
 obtain ⟨k1, k2, k3, k4⟩ := give_good args hz hp hro
 refine (call1_good h k2 ⟨by rw [← k3]; exact hra.len, fun i c x q1 q2 => ?_⟩).mono ?_
 ·have hi : i < args.length := by rw [k3]; exact (List.getElem?_eq_some_iff.1 q1).1
  exact k4 i _ c x (List.getElem?_eq_getElem hi) q1 (hra.at' i _ x (List.getElem?_eq_getElem hi) q2)
 ·rintro e w' ⟨v, rfl, hb, hr⟩
  exact ⟨v, nu, o', r, rfl, k1.trans (mono_below hb), k2.below hb, hr, k⟩
theorem stopR {n0 i : Nat} {ops : Array Oper} {d : Bool} {s : AS} {Q : AExit → AS → Prop} (h : AWp P n0 (.region i ops d) s Q) : AWp P n0 (.region i ops d) s Q := h
/-! ### its rules for the walk -/
theorem adrawM_al {all tail rest : List Oper} {d : Tmp} {T ty : TypeId} {pos : String} {aft : Array Edge} {k : Nat} {s : AS} {ms : List MkR} {ds : List Tmp} {Q : AS → Prop} (h : AMk none (some d) s.t.length (aAlS P T) (fun d e z l zc => ADrawM P all tail rest (k + 1) (s.put (some d) .undef s.o) (ms ++ [⟨d, k, e, z, l, zc, true⟩]) ds Q)) : ADrawM P all tail (⟨some d, .alloc T, ty, pos, aft, none⟩ :: rest) k s ms ds Q := h
theorem adrawM_mk {all tail rest : List Oper} {d : Tmp} {T ty : TypeId} {n c : Operand} {pos : String} {aft : Array Edge} {k : Nat} {s : AS} {ms : List MkR} {ds : List Tmp} {Q : AS → Prop} (h : AMk none (some d) s.t.length (aMkS P T (s.ev n) (s.ev c)) (fun d e z l zc => ADrawM P all tail rest (k + 1) (s.put (some d) .undef s.o) (ms ++ [⟨d, k, e, z, l, zc, false⟩]) ds Q)) : ADrawM P all tail (⟨some d, .makeSlice T n c, ty, pos, aft, none⟩ :: rest) k s ms ds Q := h
theorem adrawM_nil {all tail : List Oper} {k : Nat} {s : AS} {ms : List MkR} {ds : List Tmp} {Q : AS → Prop} (h : ATail P all tail (mkDone ⟨calT ds s.t, s.o, s.y⟩ ms) Q) : ADrawM P all tail [] k s ms ds Q := h
instance {all tail : List Oper} {k : Nat} {s : AS} {ms : List MkR} {ds : List Tmp} {Q : AS → Prop} : Stp (ADrawM P all tail [] k s ms ds Q) (ATail P all tail (mkDone ⟨calT ds s.t, s.o, s.y⟩ ms) Q) := ⟨adrawM_nil⟩
instance {all tail rest : List Oper} {d : Tmp} {T ty : TypeId} {n c : Operand} {pos : String} {aft : Array Edge} {k : Nat} {s : AS} {ms : List MkR} {ds : List Tmp} {Q : AS → Prop} : Stp (ADrawM P all tail (⟨some d, .makeSlice T n c, ty, pos, aft, none⟩ :: rest) k s ms ds Q)
 (AMk none (some d) s.t.length (aMkS P T (s.ev n) (s.ev c)) (fun d e z l zc => ADrawM P all tail rest (k + 1) (s.put (some d) .undef s.o) (ms ++ [⟨d, k, e, z, l, zc, false⟩]) ds Q)) := ⟨adrawM_mk⟩
instance {all tail rest : List Oper} {d : Tmp} {T ty : TypeId} {pos : String} {aft : Array Edge} {k : Nat} {s : AS} {ms : List MkR} {ds : List Tmp} {Q : AS → Prop} : Stp (ADrawM P all tail (⟨some d, .alloc T, ty, pos, aft, none⟩ :: rest) k s ms ds Q)
 (AMk none (some d) s.t.length (aAlS P T) (fun d e z l zc => ADrawM P all tail rest (k + 1) (s.put (some d) .undef s.o) (ms ++ [⟨d, k, e, z, l, zc, true⟩]) ds Q)) := ⟨adrawM_al⟩
end
attribute [go_sem] AMk_some aAlS MkR.av aMkS mkDone mkT calT AV.cal AV.flat MkR.ob Option.toList_some Option.toList_none
end Go.Proofs.YtfflpdekojlnmaaDoor
