/- The abstract walk: what an operation does, told of values. -/
import Derived.Test.YteihcfhdhkamfaaAbsG
namespace Go.Proofs.Yteihcfhdhkamfaa
open Go.RowKit

def AS.ev (s : AS) : Operand → AV
  | .tmp t => s.t.getD t .undef
  | .const v => .v v
  | .global g => .v (.pointer (some ⟨g, 0, none⟩))
  | .func f => .fn f [] []

def AS.put (s : AS) (dst : Option Tmp) (r : AV) (o' : List (Option AObj)) : AS := ⟨match dst with | some d => s.t.set d r | none => s.t, o'⟩

/-- a builtin that leaves all as it is -/
def aBuiltinP (P : Program) (ev : Operand → AV) (o : List (Option AObj)) : Builtin → List Operand → List TypeId → Option (Prop × AV)
  | .len, [x], [T] => aLenO P T o (ev x)
  | .min, [x, y], _ => match ev x, ev y with
    | .v (.int k a), .v (.int _ b) => some (True, .v (.int k (if b < a then b else a)))
    | _, _ => none
  | .max, [x, y], _ => match ev x, ev y with
    | .v (.int k a), .v (.int _ b) => some (True, .v (.int k (if b > a then b else a)))
    | _, _ => none
  | _, _, _ => none

/-- an operation that leaves all as it is -/
def aopP (P : Program) (ev : Operand → AV) (o : List (Option AObj)) : Op → Option (Prop × AV)
  | .move x | .assign x => some (True, ev x)
  | .nilCheck x => match ev x with
    | .vp cs => some (True, .vp cs)
    | .ptr id len z row off => some (True, .ptr id len z row off)
    | .fn g f c => some (True, .fn g f c)
    | _ => none
  | .build T parts => match aBuild P T (parts.toList.map fun p => (p.1, ev p.2)) with
    | some r => some (True, r)
    | none => none
  | .load T x => aLoad P T o (ev x)
  | .binOp op T x y _ => aBin P op T (ev x) (ev y)
  | .unOp op _ x => match aUn op (ev x) with
    | some r => some (True, r)
    | none => none
  | .convert src dst x => match aConv P src dst (ev x) with
    | some r => some (True, r)
    | none => none
  | .makeFunc (.func f) first caps => some (True, .fn f (first.toList.map ev) (caps.toList.map ev))
  | .fieldAddr T x f => match aFieldAddr P T f (ev x) with
    | some r => some (True, r)
    | none => none
  | .field T x f => aField P T f (ev x)
  | .indexAddr T x i => aIndexAddr P T o (ev x) (ev i)
  | .index T x i => aIndex P T (ev x) (ev i)
  | .extract x i => match aExtract i (ev x) with
    | some r => some (True, r)
    | none => none
  | .call c => match c.callee with
    | .builtin b => aBuiltinP P ev o b c.args.toList c.argTypes.toList
    | _ => none
  | _ => none

def aAppendC (P : Program) (ev : Operand → AV) (o : List (Option AObj)) : List Operand → List TypeId → Option (Prop × AV × List (Option AObj))
  | [x, y], [T, T'] => if T = T' then aAppend P T o (ev x) (ev y) else none
  | _, _ => none

/-- an operation that makes objects, or writes one -/
def aop (P : Program) (ev : Operand → AV) (o : List (Option AObj)) (op : Op) : Option (Prop × AV × List (Option AObj)) :=
  match op with
  | .box T x => match (ev x).cells? with
    | some (c :: cs) => some (True, .ptr o.length 0 (cs.length + 1) 0 0, o ++ [some ⟨T, cs.length + 1, false, [c :: cs]⟩])
    | _ => none
  | .alloc T => match tZero P T with
    | some (c :: cs) => some (True, .ptr o.length 0 (cs.length + 1) 0 0, o ++ [some ⟨T, cs.length + 1, false, [c :: cs]⟩])
    | _ => none
  | .buildSlice T len parts => match aBuildSlice P T len o (parts.toList.map fun p => (p.1, ev p.2)) with
    | some (r, o') => some (True, r, o')
    | none => none
  | .store T a x => match aStore P T o (ev a) (ev x) with
    | some (p, o') => some (p, .v Go.undef, o')
    | none => none
  | .makeSlice T l c => aMake P T o (ev l) (ev c)
  | .slice T x lo hi mx => aSlice P T o (ev x) (lo.map ev) (hi.map ev) (mx.map ev)
  | .call c => match c.callee with
    | .builtin .append => aAppendC P ev o c.args.toList c.argTypes.toList
    | _ => match aopP P ev o (.call c) with
      | some (p, r) => some (p, r, o)
      | none => none
  | op => match aopP P ev o op with
    | some (p, r) => some (p, r, o)
    | none => none

section
variable {D : Nat → Prop} {nu : Nat → Nat → Value} {o : List (Option AObj)} {w : World} {P : Program}

/-- the operands read as told -/
def Evs (D : Nat → Prop) (nu : Nat → Nat → Value) (o : List (Option AObj)) (w : World) (ev : Operand → AV) (rho : Operand → Value) (op : Op) : Prop := ∀ x, x ∈ op.operands.toList → RA D nu o w (ev x) (rho x)

theorem aopP_good {ev : Operand → AV} {rho : Operand → Value} {oo : Oper} (h : RO D nu o w) (hev : Evs D nu o w ev rho oo.op) {p : Prop} {r : AV} (ha : aopP P ev o oo.op = some (p, r)) (hp : p) :
    ∃ v, (execOp rho oo).run P w = .ok (.value v) w ∧ RA D nu o w r v := by
  obtain ⟨dst, op, ty, pos, after, guard⟩ := oo
  simp only [Evs] at hev ha
  unfold aopP at ha
  split at ha
  · rename_i x
    cases ha
    exact ⟨rho x, rfl, hev x (by simp [Op.operands])⟩
  · rename_i x
    cases ha
    exact ⟨rho x, rfl, hev x (by simp [Op.operands])⟩
  · rename_i x
    have hx := hev x (by simp [Op.operands])
    generalize hq : rho x = vx at hx
    split at ha
    · rename_i e; rw [e] at hx; cases ha
      refine ⟨vx, ?_, hx⟩
      cases hx
      simp only [execOp, hq, Sem.run_pure]
    · rename_i e; rw [e] at hx; cases ha
      refine ⟨vx, ?_, hx⟩
      cases hx
      simp only [execOp, hq, Sem.run_pure]
    · rename_i e; rw [e] at hx; cases ha
      refine ⟨vx, ?_, hx⟩
      cases hx
      simp only [execOp, hq, Sem.run_pure]
    · cases ha
  · rename_i T parts
    split at ha
    · rename_i r' hb
      cases ha
      obtain ⟨v, h1, h2⟩ := good_build (P := P) (vs := parts.map fun (i, x) => (i, rho x)) (by simp) (fun k p q a b => by
        rw [List.getElem?_map] at a
        rw [Array.getElem?_map] at b
        have e : parts.toList[k]? = parts[k]? := by simp
        rw [e] at a
        cases hk : parts[k]? with
        | none => rw [hk] at a; cases a
        | some pr =>
          rw [hk] at a b
          cases a; cases b
          exact ⟨rfl, hev pr.2 (by
            simp only [Op.operands]
            have : pr ∈ parts.toList := List.mem_of_getElem? (by rw [e]; exact hk)
            simpa using ⟨pr.1, by simpa using this⟩)⟩) hb
      exact ⟨v, by simp [execOp, h1], h2⟩
    · cases ha
  · rename_i T x
    obtain ⟨v, h1, h2⟩ := good_load (P := P) h (hev x (by simp [Op.operands])) ha hp
    exact ⟨v, by simp [execOp, h1], h2⟩
  · rename_i op' T x y T'
    obtain ⟨v, h1, h2, h3⟩ := bin_good (P := P) (hev x (by simp [Op.operands])) (hev y (by simp [Op.operands])) ha hp x y
    exact ⟨v, by simp [execOp, h1, h3], h2⟩
  · rename_i op' T x
    split at ha
    · rename_i r' hb
      cases ha
      obtain ⟨v, h1, h2⟩ := un_good (P := P) (hev x (by simp [Op.operands])) hb
      exact ⟨v, by simp [execOp, h1], h2⟩
    · cases ha
  · rename_i src dst' x
    split at ha
    · rename_i r' hb
      cases ha
      obtain ⟨v, h1, h2⟩ := conv_good (P := P) (hev x (by simp [Op.operands])) hb
      exact ⟨v, by simp [execOp, h1], h2⟩
    · cases ha
  · rename_i f first caps
    cases ha
    refine ⟨.func (.func f) (first.map rho) (caps.map rho), by simp [execOp, Instr.makeFunc], .fn _ _ _ _ _ (by simp) (by simp) (fun i c x q1 q2 => ?_) (fun i c x q1 q2 => ?_)⟩
    · rw [List.getElem?_map] at q1
      rw [Array.getElem?_map] at q2
      have e : first.toList[i]? = first[i]? := by simp
      rw [e] at q1
      cases hk : first[i]? with
      | none => rw [hk] at q1; cases q1
      | some pr =>
        rw [hk] at q1 q2
        cases q1; cases q2
        exact hev pr (by simp only [Op.operands]; have := Array.mem_of_getElem? hk; simp [this])
    · rw [List.getElem?_map] at q1
      rw [Array.getElem?_map] at q2
      have e : caps.toList[i]? = caps[i]? := by simp
      rw [e] at q1
      cases hk : caps[i]? with
      | none => rw [hk] at q1; cases q1
      | some pr =>
        rw [hk] at q1 q2
        cases q1; cases q2
        exact hev pr (by simp only [Op.operands]; have := Array.mem_of_getElem? hk; simp [this])
  · rename_i T x f
    split at ha
    · rename_i r' hb
      cases ha
      obtain ⟨v, h1, h2⟩ := good_fieldAddr (P := P) (hev x (by simp [Op.operands])) hb
      exact ⟨v, by simp [execOp, h1], h2⟩
    · cases ha
  · rename_i T x f
    obtain ⟨v, h1, h2⟩ := good_field (P := P) (hev x (by simp [Op.operands])) ha hp
    exact ⟨v, by simp [execOp, h1], h2⟩
  · rename_i T x i
    obtain ⟨v, h1, h2⟩ := good_indexAddr (P := P) h (hev x (by simp [Op.operands])) (hev i (by simp [Op.operands])) ha hp
    exact ⟨v, by simp [execOp, h1], h2⟩
  · rename_i T x i
    obtain ⟨v, h1, h2⟩ := index_good (P := P) (hev x (by simp [Op.operands])) (hev i (by simp [Op.operands])) ha hp
    exact ⟨v, by simp [execOp, h1], h2⟩
  · rename_i x i
    split at ha
    · rename_i r' hb
      cases ha
      obtain ⟨v, h1, h2⟩ := extract_good (P := P) (hev x (by simp [Op.operands])) hb
      exact ⟨v, by simp [execOp, h1], h2⟩
    · cases ha
  · rename_i c
    split at ha
    · rename_i b hc
      have hops : ∀ x, x ∈ c.args.toList → RA D nu o w (ev x) (rho x) := fun x hx => hev x (by simp only [Op.operands, Call.operands, hc]; simpa using hx)
      obtain ⟨callee, args, argTypes⟩ := c
      simp only at hc ha hops
      subst hc
      obtain ⟨args⟩ := args
      obtain ⟨argTypes⟩ := argTypes
      simp only at ha hops
      unfold aBuiltinP at ha
      split at ha
      · rename_i x T
        obtain ⟨v, h1, h2⟩ := len_good (P := P) ty h (hops x (by simp)) ha hp
        exact ⟨v, by simp [execOp, resolve, invoke, builtin, h1], h2⟩
      · rename_i Ts x y
        have h1 := hops x (by simp)
        have h2 := hops y (by simp)
        split at ha
        · rename_i e1 e2
          cases ha
          rw [e1] at h1; rw [e2] at h2
          have q1 := h1.v_eq; have q2 := h2.v_eq
          exact ⟨_, by simp [execOp, resolve, invoke, builtin, Builtin.min_, Builtin.min2, q1, q2], .v _⟩
        · cases ha
      · rename_i Ts x y
        have h1 := hops x (by simp)
        have h2 := hops y (by simp)
        split at ha
        · rename_i e1 e2
          cases ha
          rw [e1] at h1; rw [e2] at h2
          have q1 := h1.v_eq; have q2 := h2.v_eq
          exact ⟨_, by simp [execOp, resolve, invoke, builtin, Builtin.max_, Builtin.max2, q1, q2], .v _⟩
        · cases ha
      · cases ha
    · cases ha
  · cases ha

/-- What an operation comes to: it hands back v. -/
def GoodN (D : Nat → Prop) (nu : Nat → Nat → Value) (o : List (Option AObj)) (w : World) (res : Result Next) (r : AV) (o' : List (Option AObj)) : Prop :=
  ∃ v w' nu', (res = .ok (.value v) w' ∨ (res = .ok .skip w' ∧ v = Go.undef)) ∧ Mono nu o w nu' o' w' ∧ RO D nu' o' w' ∧ RA D nu' o' w' r v

theorem toN {x : Sem Value} {r : AV} {o' : List (Option AObj)} (h : Good D nu o w (x.run P w) r o') : GoodN D nu o w ((do pure (Next.value (← x)) : Sem Next).run P w) r o' := by
  obtain ⟨v, w', nu', h1, h2⟩ := h
  exact ⟨v, w', nu', .inl (by simp [h1]), h2⟩

theorem opt_some {ev : Operand → AV} {rho : Operand → Value} {lo : Option Operand} (h : ∀ x, lo = some x → RA D nu o w (ev x) (rho x)) : (∀ c, lo.map ev = some c → ∃ y, lo.map rho = some y ∧ RA D nu o w c y) ∧ (lo.map ev = none → lo.map rho = none) := by
  cases lo with
  | none => exact ⟨fun c hc => (by cases hc), fun _ => rfl⟩
  | some x => exact ⟨fun c hc => by cases hc; exact ⟨_, rfl, h x rfl⟩, fun hc => by cases hc⟩

theorem box_good {T : TypeId} {c : AV} {cs : List AV} {x : Value} (h : RO D nu o w) (hc : RCs D nu o w (c :: cs) x.cells) : Good D nu o w ((Instr.box T x).run P w) (.ptr o.length 0 (cs.length + 1) 0 0) (o ++ [some ⟨T, cs.length + 1, false, [c :: cs]⟩]) := by
  have := good_box h T hc (by simp)
  simp only [List.length_cons] at this
  have e : (Instr.box T x).run P w = .ok (.pointer (some ⟨w.heap.size, 0, none⟩)) (w.alloc (.cells x.cells T)) := by simp [Instr.box, newVar, newRow]
  rw [e]; exact this

theorem aop_good {ev : Operand → AV} {rho : Operand → Value} {oo : Oper} (h : RO D nu o w) (hev : Evs D nu o w ev rho oo.op) {p : Prop} {r : AV} {o' : List (Option AObj)} (ha : aop P ev o oo.op = some (p, r, o')) (hp : p) :
    GoodN D nu o w ((execOp rho oo).run P w) r o' := by
  unfold aop at ha
  split at ha
  · rename_i T x hop
    have hx := hev x (by rw [hop]; simp [Op.operands])
    split at ha
    · rename_i c cs hc
      cases ha
      have := toN (box_good (P := P) (T := T) h (hx.one hc))
      simpa only [execOp, hop] using this
    · cases ha
  · rename_i T hop
    split at ha
    · rename_i c cs hc
      cases ha
      obtain ⟨i, zv, hi, hzv, he, hone⟩ := tZero_spec hc
      have hz : (zeroValue T).run P w = .ok zv w := by simp [zeroValue, typeInfo, hi, hzv]
      have hb := box_good (P := P) (T := T) (x := zv) h (by rw [he]; exact zero_cs zv hone)
      have e : (Instr.alloc T true (.tuple #[])).run P w = (Instr.box T zv).run P w := by simp [Instr.alloc, Instr.box, hz]
      rw [← e] at hb
      have := toN hb
      simpa only [execOp, hop] using this
    · cases ha
  · rename_i T len parts hop
    split at ha
    · rename_i r' o'' hb
      cases ha
      have := toN (good_buildSlice (P := P) (vs := parts.map fun (i, x) => (i, rho x)) h (by simp) (fun k p q a b => by
        rw [List.getElem?_map] at a
        rw [Array.getElem?_map] at b
        have e : parts.toList[k]? = parts[k]? := by simp
        rw [e] at a
        cases hk : parts[k]? with
        | none => rw [hk] at a; cases a
        | some pr =>
          rw [hk] at a b
          cases a; cases b
          exact ⟨rfl, hev pr.2 (by
            rw [hop]
            simp only [Op.operands]
            have : pr ∈ parts.toList := List.mem_of_getElem? (by rw [e]; exact hk)
            simpa using ⟨pr.1, by simpa using this⟩)⟩) hb)
      simpa only [execOp, hop] using this
    · cases ha
  · rename_i T a x hop
    split at ha
    · rename_i p' o'' hb
      cases ha
      obtain ⟨w', h1, h2, h3⟩ := good_store (P := P) h (hev a (by rw [hop]; simp [Op.operands])) (hev x (by rw [hop]; simp [Op.operands])) hb hp
      exact ⟨_, w', nu, .inr ⟨by simp [execOp, hop, h1], rfl⟩, h2, h3, .v _⟩
    · cases ha
  · rename_i T l c hop
    have := toN (good_make (P := P) h (hev l (by rw [hop]; simp [Op.operands])) (hev c (by rw [hop]; simp [Op.operands])) ha hp)
    simpa only [execOp, hop] using this
  · rename_i T x lo hi mx hop
    have := toN (good_slice (P := P) h (hev x (by rw [hop]; simp [Op.operands])) (opt_some (rho := rho) (fun y hy => hev y (by rw [hop, hy]; simp [Op.operands]))) (opt_some (rho := rho) (fun y hy => hev y (by rw [hop, hy]; simp [Op.operands]))) (opt_some (rho := rho) (fun y hy => hev y (by rw [hop, hy]; simp [Op.operands]))) ha hp)
    simpa only [execOp, hop] using this
  · rename_i c hop
    split at ha
    · rename_i hc
      have hops : ∀ x, x ∈ c.args.toList → RA D nu o w (ev x) (rho x) := fun x hx => hev x (by rw [hop]; simp only [Op.operands, Call.operands, hc]; simpa using hx)
      obtain ⟨callee, args, argTypes⟩ := c
      simp only at hc ha hops
      subst hc
      obtain ⟨args⟩ := args
      obtain ⟨argTypes⟩ := argTypes
      simp only at ha hops
      unfold aAppendC at ha
      split at ha
      · rename_i x y T T'
        split at ha
        · rename_i hT
          subst hT
          have := toN (good_append (P := P) oo.type h (hops x (by simp)) (hops y (by simp)) ha hp)
          simpa [execOp, hop, resolve, invoke, builtin] using this
        · cases ha
      · cases ha
    · split at ha
      · rename_i p' r' hb
        cases ha
        rw [← hop] at hb
        obtain ⟨v, h1, h2⟩ := aopP_good (P := P) h hev hb hp
        exact ⟨v, w, nu, .inl h1, .refl nu o w, h, h2⟩
      · cases ha
  · split at ha
    · rename_i p' r' hb
      cases ha
      obtain ⟨v, h1, h2⟩ := aopP_good (P := P) h hev hb hp
      exact ⟨v, w, nu, .inl h1, .refl nu o w, h, h2⟩
    · cases ha

end
end Go.Proofs.Yteihcfhdhkamfaa
