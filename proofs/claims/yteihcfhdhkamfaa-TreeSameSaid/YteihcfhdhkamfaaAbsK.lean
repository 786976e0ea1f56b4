/- The abstract walk: code, loops, functions. -/
import Derived.Test.YteihcfhdhkamfaaAbsJ
namespace Go.Proofs.Yteihcfhdhkamfaa
open Go.RowKit

inductive AExit where
  | normal
  | exit (id : Nat)
  | goto (l : Nat)
  | ret
def AExit.real : AExit → Exit
  | .normal => .normal
  | .exit id => .exit id
  | .goto l => .goto l
  | .ret => .ret

/-! ### what is forgotten at a loop's head -/
/-- a list of values, some of them forgotten -/
def WkT (n : Nat) : List AV → List AV → Prop
  | [], [] => True
  | a :: l, c :: m => (c = .undef ∨ (a = c ∧ c.wf n = true)) ∧ WkT n l m
  | _, _ => False
/-- the objects, the last ones let go -/
def WkO (n : Nat) : List (Option AObj) → List (Option AObj) → Prop
  | _, [] => True
  | x :: l, y :: m => (y = none ∨ (x = y ∧ ∀ ob, y = some ob → wfR n ob.rows = true)) ∧ WkO n l m
  | [], _ :: _ => False
structure Wk (n0 : Nat) (s s' : AS) : Prop where
  t : WkT s'.o.length s.t s'.t
  o : WkO s'.o.length s.o s'.o
  n : n0 ≤ s'.o.length

theorem WkT_get {n : Nat} : ∀ {l m : List AV}, WkT n l m → l.length = m.length ∧ ∀ (i : Nat) c, m[i]? = some c → c = .undef ∨ (l[i]? = some c ∧ c.wf n = true)
  | [], [], _ => ⟨rfl, fun i c h => by simp at h⟩
  | a :: l, b :: m, h => by
    obtain ⟨h1, h2⟩ := WkT_get h.2
    refine ⟨by simp [h1], fun i c hc => ?_⟩
    cases i with
    | zero => simp at hc; subst hc; rcases h.1 with e | ⟨e, f⟩
              · exact .inl e
              · exact .inr ⟨by simp [e], f⟩
    | succ i => simpa using h2 i c (by simpa using hc)
  | [], _ :: _, h => h.elim
  | _ :: _, [], h => h.elim
theorem WkO_get {n : Nat} : ∀ {l m : List (Option AObj)}, WkO n l m → m.length ≤ l.length ∧ ∀ (i : Nat) c, m[i]? = some c → c = none ∨ (l[i]? = some c ∧ ∀ ob, c = some ob → wfR n ob.rows = true)
  | l, [], _ => ⟨by simp, fun i c h => by simp at h⟩
  | a :: l, b :: m, h => by
    obtain ⟨h1, h2⟩ := WkO_get h.2
    refine ⟨by simp [h1], fun i c hc => ?_⟩
    cases i with
    | zero => simp at hc; subst hc; rcases h.1 with e | ⟨e, f⟩
              · exact .inl e
              · exact .inr ⟨by simp [e], f⟩
    | succ i => simpa using h2 i c (by simpa using hc)
  | [], _ :: _, h => h.elim

section
variable {D : Nat → Prop} {nu : Nat → Nat → Value} {o : List (Option AObj)} {w : World} {P : Program}

theorem wk_good {n0 : Nat} {s s' : AS} {a : Act} {nu0 : Nat → Nat → Value} {o0 : List (Option AObj)} {w0 : World} (h : Wk n0 s s') (hn : o0.length ≤ n0) (hm : Mono nu0 o0 w0 nu s.o w) (hs : RS D nu s a w) : Mono nu0 o0 w0 nu s'.o w ∧ RS D nu s' a w := by
  obtain ⟨t1, t2⟩ := WkT_get h.t
  obtain ⟨o1, o2⟩ := WkO_get h.o
  have alive : ∀ (id : Nat) ob, s'.o[id]? = some (some ob) → s.o[id]? = some (some ob) ∧ wfR s'.o.length ob.rows = true := fun id ob hh => by
    rcases o2 id _ hh with e | ⟨e, f⟩
    · cases e
    · exact ⟨e, f ob rfl⟩
  have hown : ∀ b, owned nu s'.o b → owned nu s.o b := fun b ⟨id, ob, h1, h2⟩ => ⟨id, ob, (alive id ob h1).1, h2⟩
  have hF : ∀ b, Fz D nu s.o w b → Fz D nu s'.o w b := fun b hb => ⟨hb.1, fun ho => hb.2.1 (hown b ho), hb.2.2⟩
  have hH : ∀ id len, id < s'.o.length → hdrOk s.o id len → hdrOk s'.o id len ∧ nu id len = nu id len := fun id len hlt hh => by
    obtain ⟨ob, k1, k2⟩ := hh
    have e : s'.o[id]? = some s'.o[id] := List.getElem?_eq_getElem hlt
    refine ⟨⟨_, e, fun x hx => ?_⟩, rfl⟩
    rw [hx] at e
    obtain ⟨e1, _⟩ := alive id x e
    rw [e1] at k1; cases k1
    exact k2 x rfl
  refine ⟨⟨hm.os, hm.tape, hm.output, hm.size, fun id len hh => ?_, fun b hb hno => ?_⟩, ⟨⟨fun id ob ho => ?_, hs.ro.up, fun i1 i2 b1 b2 b k1 k2 => hs.ro.sep i1 i2 b1 b2 b (alive _ _ k1).1 (alive _ _ k2).1⟩, ⟨?_, fun i c x h1 h2 => ?_⟩, hs.dfr⟩⟩
  · obtain ⟨h1, h2⟩ := hm.hdr id len hh
    have hlt := hdrOk_lt hh
    exact ⟨(hH id len (by have := h.n; omega) h1).1, h2⟩
  · obtain ⟨h1, h2⟩ := hm.keep b hb hno
    exact ⟨h1, fun ho => h2 (hown b ho)⟩
  · obtain ⟨e1, e2⟩ := alive id ob ho
    rcases hs.ro.obj id ob e1 with e | ⟨g, cur, hr⟩
    · exact .inl e
    · exact .inr ⟨g, cur, hr.blk, hr.dom, hr.box, hr.vec, hr.z, hr.row, fun i j row c x q1 q2 q3 => (hr.cell i j row c x q1 q2 q3).tr hF hH (wfL_get (wfR_get e2 q1) q2), hr.one⟩
  · rw [← t1]; exact hs.tm.len
  · rcases t2 i c h1 with rfl | ⟨e, f⟩
    · exact .undef x
    · exact (hs.tm.at' i c x e h2).tr hF hH f

/-- a nil slice, seen as an own row without elements -/
inductive Gs (s : AS) : AS → Prop
  | refl : Gs s s
  | step (i : Nat) (T : TypeId) (z : Nat) (s1 : AS) : Gs s s1 → s1.t[i]? = some (.v (.slice none 0 0)) → 0 < z → Gs s ⟨s1.t.set i (.vec s1.o.length 0), s1.o ++ [some ⟨T, z, true, []⟩]⟩

theorem gs_good {s s' : AS} {a : Act} {nu0 : Nat → Nat → Value} {o0 : List (Option AObj)} {w0 : World} (h : Gs s s') (hm : Mono nu0 o0 w0 nu s.o w) (hs : RS D nu s a w) : ∃ nu', Mono nu0 o0 w0 nu' s'.o w ∧ RS D nu' s' a w := by
  induction h with
  | refl => exact ⟨nu, hm, hs⟩
  | step i T z s1 _ hi hz ih =>
    obtain ⟨nu1, hm1, hs1⟩ := ih
    have hv : ∀ b, blkOf (Value.slice none 0 0) = some b → w.heap.size ≤ b := fun b e => by cases e
    have hp := push_mono (nu := nu1) (o := s1.o) (ob := ⟨T, z, true, []⟩) (Below.refl w.heap.size w) hv
    refine ⟨updN nu1 s1.o.length (.slice none 0 0), hm1.trans hp, ⟨push_RO hs1.ro (Below.refl _ _) hv (.inl ⟨rfl, rfl, rfl⟩), ?_, hs1.dfr⟩⟩
    have ht := hs1.tm.mono hp (fun _ _ h => h)
    refine ⟨by simpa using ht.len, fun j c x h1 h2 => ?_⟩
    by_cases hij : i = j
    · subst hij
      rw [List.getElem?_set_self (List.getElem?_eq_some_iff.1 hi).1] at h1
      cases h1
      have := (ht.at' i _ x hi h2).v_eq
      subst this
      have := RA.vec (D := D) (nu := updN nu1 s1.o.length (.slice none 0 0)) (o := s1.o ++ [some ⟨T, z, true, []⟩]) (w := w) s1.o.length 0 ⟨_, List.getElem?_concat_length, fun x hx => Nat.zero_le _⟩ (by rw [updN_new]; rfl)
      rw [updN_new] at this
      exact this
    · rw [List.getElem?_set_ne hij] at h1
      exact ht.at' j c x h1 h2

/-! ### code -/
def ACnd (c : AV) (A B : Prop) : Prop := match c with
  | .v (.bool t) => AIf t A B
  | _ => False
@[congr] theorem ACnd_congr {c c' : AV} {A B : Prop} (h : c = c') : ACnd c A B = ACnd c' A B := by rw [h]
theorem ACnd_bool (t : Bool) (A B : Prop) : ACnd (.v (.bool t)) A B = AIf t A B := rfl

/-- a loop: a relation that each round keeps, a measure that falls -/
def ALoop (n0 : Nat) (step : AS → (AExit → AS → Prop) → Prop) (s : AS) (Q : AExit → AS → Prop) : Prop :=
  ∃ I : Nat → AS → Prop, (∃ m s1 s2, Gs s s1 ∧ Wk n0 s1 s2 ∧ I m s2) ∧
    ∀ m s1, I m s1 → step s1 (fun e s2 => match e with
      | .normal => ∃ m' s3, Wk n0 s2 s3 ∧ I m' s3 ∧ m' < m
      | e => Q e s2)
@[congr] theorem ALoop_congr {n0 : Nat} {step : AS → (AExit → AS → Prop) → Prop} {s s' : AS} {Q : AExit → AS → Prop} (h : s = s') : ALoop n0 step s Q = ALoop n0 step s' Q := by rw [h]

def AWp (P : Program) (n0 : Nat) : Code → AS → (AExit → AS → Prop) → Prop
  | .skip, s, Q => Q .normal s
  | .region _ ops d, s, Q => if d then ADraw P ops.toList ops.toList s (Q .normal) else AOps P ops.toList ops.toList s (Q .normal)
  | .seq a b, s, Q => AWp P n0 a s (fun e s' => match e with
    | .normal => AWp P n0 b s' Q
    | e => Q e s')
  | .cond c a b, s, Q => ACnd (s.ev c) (AWp P n0 a s Q) (AWp P n0 b s Q)
  | .block id c, s, Q => AWp P n0 c s (fun e s' => match e with
    | .exit i => if i = id then Q .normal s' else Q (.exit i) s'
    | e => Q e s')
  | .loop c, s, Q => ALoop n0 (AWp P n0 c) s Q
  | .rangeFunc _ _ _ _, _, _ => False
  | .exit id, s, Q => Q (.exit id) s
  | .scope c, s, Q => AWp P n0 c s (fun e s' => match e with
    | .goto _ => False
    | e => Q e s')
  | .label _, s, Q => Q .normal s
  | .goto l, s, Q => Q (.goto l) s
  | .ret, s, Q => Q .ret s
  | .refuse _, _, _ => False
@[congr] theorem AWp_congr {n0 : Nat} {c : Code} {s s' : AS} {Q : AExit → AS → Prop} (h : s = s') : AWp P n0 c s Q = AWp P n0 c s' Q := by rw [h]

def okCode : Code → Bool
  | .region _ ops d => !d || relB ops
  | .seq a b => okCode a && okCode b
  | .cond _ a b => okCode a && okCode b
  | .block _ c => okCode c
  | .loop c => okCode c
  | .scope c => okCode c
  | .rangeFunc .. => false
  | .refuse _ => false
  | _ => true

theorem RS.drew {s : AS} {a : Act} (h : RS D nu s a w) : RS D nu s a w.drew := ⟨h.ro.below (below_drew w), h.tm.mono (mono_below (below_drew w)) (fun _ _ h => h), h.dfr⟩

theorem wp_loop_rel {c : Code} {Q : Exit → Act → World → Prop} {a : Act} (I : Nat → Act → World → Prop) {m : Nat} (h0 : I m a w) (round : ∀ m a w, I m a w → c.wp P (Exit.then (fun a' w' => ∃ m', I m' a' w' ∧ m' < m) Q) a w) : (Code.loop c).wp P Q a w := by
  have key : ∀ n a w, I n a w → ∀ b k cs, ∃ e a' w', Q e a' w' ∧ Arrives P (lone (b.at a (.code c :: .inLoop c :: k)) cs w) b k cs e a' w' := by
    intro n
    induction n using Nat.strongRecOn with
    | _ n ih =>
      intro a w hI b k cs
      obtain ⟨e, a1, w1, hq, harr⟩ := round n a w hI b (.inLoop c :: k) cs
      cases e with
      | normal =>
        obtain ⟨m', h1, h2⟩ := hq
        obtain ⟨e2, a2, w2, q2, arr2⟩ := ih m' h2 a1 w1 h1 b k cs
        exact ⟨e2, a2, w2, q2, .of_steps (Steps.trans harr (.one step_inLoop)) arr2⟩
      | _ => exact ⟨_, a1, w1, hq, .pass (x := .inLoop c) rfl (fun _ _ => .inl (by simp)) harr⟩
  intro b k cs
  obtain ⟨e, a', w', hq, harr⟩ := key m a w h0 b k cs
  exact ⟨e, a', w', hq, .of_steps (.one step_loop) harr⟩

theorem awp_good (hmx : P.follows .mixedOrders = true) {n0 : Nat} {o0 : List (Option AObj)} {nu0 : Nat → Nat → Value} {w0 : World} (hn : o0.length ≤ n0) : ∀ (c : Code), okCode c = true → ∀ (s : AS) (a : Act) (w : World) (nu : Nat → Nat → Value) (Q : AExit → AS → Prop) (R : Exit → Act → World → Prop),
    Mono nu0 o0 w0 nu s.o w → RS D nu s a w → AWp P n0 c s Q → (∀ e s' a' w' nu', Mono nu0 o0 w0 nu' s'.o w' → RS D nu' s' a' w' → Q e s' → R e.real a' w') → c.wp P R a w := by
  intro c
  induction c with
  | skip => exact fun _ s a w nu Q R hm hs hq hR => wp_skip (hR .normal s a w nu hm hs hq)
  | region id ops d =>
    intro hok s a w nu Q R hm hs hq hR
    cases d
    · exact wp_region_list (by
        have := aops_good (P := P) (all := ops.toList) ops.toList s a w nu hm hs (by simpa only [AWp, Bool.false_eq_true, if_false] using hq) (fun s' a' w' nu' h1 h2 h3 => hR .normal s' a' w' nu' h1 h2 h3)
        simpa using this)
    · simp only [okCode, Bool.not_true, Bool.false_or] at hok
      obtain ⟨l⟩ := ops
      simp only [AWp, if_true] at hq
      obtain ⟨rs, hrel⟩ := adraw_good (P := P) hok (hm.trans (mono_below (below_drew w))) hs.drew (fun s' a' w' nu' h1 h2 h3 => hR .normal s' a' w' nu' h1 h2 h3) l 0 s [] (fun _ => a) (by simp) ⟨rfl, rfl, fun _ => hs.dfr, fun _ => hs.tm.len, fun x t c v h1 h2 => .inl ⟨h1, h2⟩⟩ hq
      exact wp_region_rel _ hmx hok hrel
  | seq x y ihx ihy =>
    intro hok s a w nu Q R hm hs hq hR
    simp only [okCode, Bool.and_eq_true] at hok
    refine wp_seq (ihx hok.1 s a w nu _ _ hm hs hq (fun e s' a' w' nu' h1 h2 h3 => ?_))
    cases e with
    | normal => exact ihy hok.2 s' a' w' nu' Q R h1 h2 h3 hR
    | exit i => exact hR (.exit i) s' a' w' nu' h1 h2 h3
    | goto i => exact hR (.goto i) s' a' w' nu' h1 h2 h3
    | ret => exact hR .ret s' a' w' nu' h1 h2 h3
  | cond c x y ihx ihy =>
    intro hok s a w nu Q R hm hs hq hR
    simp only [okCode, Bool.and_eq_true] at hok
    simp only [AWp, ACnd] at hq
    split at hq
    · rename_i t e
      have hc := hs.ev c
      rw [e] at hc
      refine wp_cond hc.v_eq ?_
      cases t
      · exact ihy hok.2 s a w nu Q R hm hs hq hR
      · exact ihx hok.1 s a w nu Q R hm hs hq hR
    · exact hq.elim
  | block id c ih =>
    intro hok s a w nu Q R hm hs hq hR
    refine wp_block (ih hok s a w nu _ _ hm hs hq (fun e s' a' w' nu' h1 h2 h3 => ?_))
    cases e with
    | normal => exact hR .normal s' a' w' nu' h1 h2 h3
    | exit i =>
      simp only [AExit.real, Exit.inBlock]
      simp only at h3
      split
      · rename_i hi; rw [if_pos hi] at h3; exact hR .normal s' a' w' nu' h1 h2 h3
      · rename_i hi; rw [if_neg hi] at h3; exact hR (.exit i) s' a' w' nu' h1 h2 h3
    | goto i => exact hR (.goto i) s' a' w' nu' h1 h2 h3
    | ret => exact hR .ret s' a' w' nu' h1 h2 h3
  | loop c ih =>
    intro hok s a w nu Q R hm hs hq hR
    obtain ⟨I, ⟨m, s1, s2, hg, hw, hI⟩, hround⟩ := hq
    obtain ⟨nu1, hm1, hs1⟩ := gs_good hg hm hs
    obtain ⟨hm2, hs2⟩ := wk_good hw hn hm1 hs1
    refine wp_loop_rel (fun m a w => ∃ s nu, I m s ∧ Mono nu0 o0 w0 nu s.o w ∧ RS D nu s a w) (m := m) ⟨s2, nu1, hI, hm2, hs2⟩ ?_
    rintro m a w ⟨s, nu, hI, hm, hs⟩
    refine ih hok s a w nu _ _ hm hs (hround m s hI) (fun e s' a' w' nu' h1 h2 h3 => ?_)
    cases e with
    | normal =>
      obtain ⟨m', s3, k1, k2, k3⟩ := h3
      obtain ⟨q1, q2⟩ := wk_good k1 hn h1 h2
      exact ⟨m', ⟨s3, nu', k2, q1, q2⟩, k3⟩
    | exit i => exact hR (.exit i) s' a' w' nu' h1 h2 h3
    | goto i => exact hR (.goto i) s' a' w' nu' h1 h2 h3
    | ret => exact hR .ret s' a' w' nu' h1 h2 h3
  | rangeFunc _ _ _ _ _ _ => intro hok; cases hok
  | exit id => exact fun _ s a w nu Q R hm hs hq hR => wp_exit (hR (.exit id) s a w nu hm hs hq)
  | scope c ih =>
    intro hok s a w nu Q R hm hs hq hR
    refine wp_scope_straight (ih hok s a w nu _ _ hm hs hq (fun e s' a' w' nu' h1 h2 h3 => ?_))
    cases e with
    | normal => exact hR .normal s' a' w' nu' h1 h2 h3
    | exit i => exact hR (.exit i) s' a' w' nu' h1 h2 h3
    | goto i => exact h3.elim
    | ret => exact hR .ret s' a' w' nu' h1 h2 h3
  | label l => exact fun _ s a w nu Q R hm hs hq hR => wp_label (hR .normal s a w nu hm hs hq)
  | goto l => exact fun _ s a w nu Q R hm hs hq hR => wp_goto (hR (.goto l) s a w nu hm hs hq)
  | ret => exact fun _ s a w nu Q R hm hs hq hR => wp_ret (hR .ret s a w nu hm hs hq)
  | refuse why => intro hok; cases hok

end
end Go.Proofs.Yteihcfhdhkamfaa
