/- What survives when a call writes over lists that are none of A. -/
import Derived.Test.YtldnlbcibmmbbaaROverA
import Derived.Test.YtldnlbcibmmbbaaRRenV
import Derived.Test.YtldnlbcibmmbbaaROvr3
set_option linter.unusedSimpArgs false
set_option linter.unusedVariables false
namespace Go.Proofs.Ytldnlbcibmmbbaa
open Go.RowKit

def pK (A : Nat → Prop) (a : AV) : (Nat → Prop) → World → Value → Prop := fun S w x => (∀ b, S b → A b) ∧ RA S (fun _ _ => Go.undef) [] w a x
mutual
def AV.solid : AV → Bool
 | .undef => true
 | .v _ => true
 | .agg cs => solidL cs
 | .tup cs => solidL cs
 | .slc z rows _ => decide (0 < z) && solidR rows
 | .full a => a.solid
 | _ => false
def solidL : List AV → Bool
 | [] => true
 | a :: l => a.solid && solidL l
def solidR : List (List AV) → Bool
 | [] => true
 | r :: l => solidL r && solidR l
end
theorem solidL_get : ∀ {l : List AV}, solidL l = true → ∀ {i : Nat} {c : AV}, l[i]? = some c → c.solid = true
 | [], _, i, c, h => by simp at h
 | a :: l, h, 0, c, hi => by simp only [solidL, Bool.and_eq_true] at h; simp at hi; subst hi; exact h.1
 | a :: l, h, i + 1, c, hi => by simp only [solidL, Bool.and_eq_true] at h; exact solidL_get h.2 (by simpa using hi)
theorem solidR_get : ∀ {l : List (List AV)}, solidR l = true → ∀ {i : Nat} {r : List AV}, l[i]? = some r → solidL r = true
 | [], _, i, c, h => by simp at h
 | a :: l, h, 0, c, hi => by simp only [solidR, Bool.and_eq_true] at h; simp at hi; subst hi; exact h.1
 | a :: l, h, i + 1, c, hi => by simp only [solidR, Bool.and_eq_true] at h; exact solidR_get h.2 (by simpa using hi)
theorem solidR_of : ∀ {l : List (List AV)}, (∀ r ∈ l, solidL r = true) → solidR l = true
 | [], _ => rfl
 | a :: l, h => by simp only [solidR, Bool.and_eq_true]; exact ⟨h a (by simp), solidR_of (fun r hr => h r (by simp [hr]))⟩
theorem solidR_map {α : Type} (f : α → List AV) (h : ∀ x, solidL (f x) = true) (l : List α) : solidR (l.map f) = true := solidR_of (fun r hr => by
 obtain ⟨x, _, rfl⟩ := List.mem_map.1 hr; exact h x)
theorem solidR_app {a b : List (List AV)} (h : solidR a = true) (k : solidR b = true) : solidR (a ++ b) = true := solidR_of (fun r hr => by
 rcases List.mem_append.1 hr with hr | hr
 ·obtain ⟨i, hi⟩ := List.getElem?_of_mem hr; exact solidR_get h hi
 ·obtain ⟨i, hi⟩ := List.getElem?_of_mem hr; exact solidR_get k hi)

section
variable {D : Nat → Prop} {nu : Nat → Nat → Value} {o o' : List (Option AObj)} {w w' : World} {A S : Nat → Prop}
theorem RA.solid {a : AV} {x : Value} (hr : RA D nu o w a x) (hA : ∀ b, Fz D nu o w b → (∃ C T k, w.heap[b]? = some (.cells C T k)) → A b) (h : a.solid = true) : RA A (fun _ _ => Go.undef) [] w a x := by
 induction hr with
 | undef x => exact .undef x
 | v x => exact .v x
 | agg cs xs h1 _ h3 ih => exact .agg cs xs h1 (fun i c x q1 q2 => ih i c x q1 q2 (solidL_get h q1)) h3
 | tup cs xs h1 _ ih => exact .tup cs xs h1 (fun i c x q1 q2 => ih i c x q1 q2 (solidL_get h q1))
 | slcNil z => exact .slcNil z
 | slcOdd z a => exact .slcOdd z a
 | slc z rows len b off cap f h1 h2 h3 h4 h5 h6 _ h8 ih =>
  simp only [AV.solid, Bool.and_eq_true, decide_eq_true_eq] at h
  refine .slc z rows len b off cap f h1 h2 h3 (fun hne => ?_) h5 h6 (fun i j row c q1 q2 => ih i j row c q1 q2 (solidL_get (solidR_get h.2 q1) q2)) h8
  have hf := h4 hne
  refine ⟨hf.1, owned_nil _ _, hA b hf ?_⟩
  obtain ⟨row, l, rfl⟩ := List.exists_cons_of_ne_nil hne
  have hl := h5 0 row rfl
  have hc := h6 0 0 row row[0] rfl (List.getElem?_eq_getElem (by omega))
  unfold World.cell? at hc
  split at hc
  ·exact ⟨_, _, _, ‹_›⟩
  ·cases hc
 | full a x h1 _ ih => exact .full a x h1 (ih h)
 | _ => simp [AV.solid] at h

inductive LeA (A : Nat → Prop) : AV → AV → Prop
 | refl (a : AV) : LeA A a a
 | ev (x : Value) : x.oneCell' = true → LeA A (.v x) (.wit (evA A) (.v x))
 | agg (cs ds : List AV) : cs.length = ds.length → (∀ (i : Nat) c d, cs[i]? = some c → ds[i]? = some d → LeA A c d) → LeA A (.agg cs) (.agg ds)
 | slc (z : Nat) (rows rows' : List (List AV)) (len : Nat) : len ≤ rows'.length → rows'.length ≤ rows.length → (∀ (i : Nat) r r', rows[i]? = some r → rows'[i]? = some r' → r.length = r'.length) →
   (∀ (i j : Nat) r r' c c', rows[i]? = some r → rows'[i]? = some r' → r[j]? = some c → r'[j]? = some c' → LeA A c c') → LeA A (.slc z rows len) (.slc z rows' len)
theorem RA.leA {a b : AV} (h : LeA A a b) (hA : ∀ b, A b → Fz D nu o w b ∧ ∃ C T k, w.heap[b]? = some (.cells C T k)) : ∀ {x : Value}, RA D nu o w a x → RA D nu o w b x := by
 induction h with
 | refl a => exact fun h => h
 | ev x h1 => intro y h; rw [h.v_eq]; exact .ev (fun b hb => (hA b hb).1) (fun b hb => (hA b hb).2) h1 (.v x)
 | agg cs ds hl _ ih =>
  intro x h
  cases h with
  | agg _ xs h1 h2 h3 =>
   refine .agg ds xs (by omega) (fun i d y hd hy => ?_) h3
   have hi : i < cs.length := by have := (List.getElem?_eq_some_iff.1 hd).1; omega
   exact ih i cs[i] d (List.getElem?_eq_getElem hi) hd (h2 i _ y (List.getElem?_eq_getElem hi) hy)
 | slc z rows rows' len h1 h2 h3 _ ih =>
  intro x h
  have up : ∀ (i : Nat) r', rows'[i]? = some r' → ∃ r, rows[i]? = some r := fun i r' hr => ⟨_, List.getElem?_eq_getElem (by have := (List.getElem?_eq_some_iff.1 hr).1; omega)⟩
  have upj : ∀ (i j : Nat) r' c', rows'[i]? = some r' → r'[j]? = some c' → ∃ r c, rows[i]? = some r ∧ r[j]? = some c := fun i j r' c' hr hc => by
   obtain ⟨r, hr'⟩ := up i r' hr
   exact ⟨r, _, hr', List.getElem?_eq_getElem (by have := h3 i r r' hr' hr; have := (List.getElem?_eq_some_iff.1 hc).1; omega)⟩
  cases h with
  | slcNil =>
   have : rows' = [] := List.eq_nil_of_length_eq_zero (by simpa using h2)
   subst this; exact .slcNil z
  | slcOdd _ a =>
   have : rows' = [] := List.eq_nil_of_length_eq_zero (by simpa using h2)
   subst this; exact .slcOdd z a
  | slc _ _ _ b off cap f k1 k2 k3 k4 k5 k6 k7 k8 =>
   refine .slc z rows' len b off cap f h1 (by omega) k3 (fun hne => k4 (fun e => hne (by subst e; exact List.eq_nil_of_length_eq_zero (by simpa using h2)))) (fun i r' hr => ?_) (fun i j r' c' hr hc => ?_) (fun i j r' c' hr hc => ?_) (fun i j r' c' hr hc => ?_)
   ·obtain ⟨r, hr'⟩ := up i r' hr
    rw [← h3 i r r' hr' hr]; exact k5 i r hr'
   ·obtain ⟨r, c, q1, q2⟩ := upj i j r' c' hr hc
    exact k6 i j r c q1 q2
   ·obtain ⟨r, c, q1, q2⟩ := upj i j r' c' hr hc
    exact ih i j r r' c c' q1 hr q2 hc (k7 i j r c q1 q2)
   ·obtain ⟨r, c, q1, q2⟩ := upj i j r' c' hr hc
    exact k8 i j r c q1 q2

inductive Wp (A : Nat → Prop) : AV → AV → Prop
 | same (a : AV) : Wp A a a
 | undef (a : AV) : Wp A a .undef
 | wit (z : Nat) (rows : List (List AV)) (len : Nat) (b : AV) : (AV.slc z rows len).solid = true → LeA A (.slc z rows len) b → Wp A (.slc z rows len) (.wit (pK A (.slc z rows len)) b)
 | ev (x : Value) : x.oneCell' = true → Wp A (.v x) (.wit (evA A) (.v x))
inductive Sv (A : Nat → Prop) : AV → AV → Prop
 | undef (a : AV) : Sv A a .undef
 | v (x : Value) : Sv A (.v x) (.v x)
 | ptr (id len z row off : Nat) : Sv A (.ptr id len z row off) (.ptr id len z row off)
 | vec (id len : Nat) : Sv A (.vec id len) (.vec id len)
 | ev (x : Value) : Sv A (.wit (evA A) (.v x)) (.v x)
 | wit (a b : AV) : a.wf 0 = true → Sv A (.wit (pK A a) b) a
theorem Wp.ra {a b : AV} {x : Value} (h : Wp A a b) (hA : ∀ b, A b → Fz D nu o w b ∧ ∃ C T k, w.heap[b]? = some (.cells C T k)) (hB : ∀ b, Fz D nu o w b → (∃ C T k, w.heap[b]? = some (.cells C T k)) → A b) (hr : RA D nu o w a x) : RA D nu o w b x := by
 cases h with
 | same => exact hr
 | undef => exact .undef x
 | ev y h1 => rw [hr.v_eq]; exact .ev (fun b hb => (hA b hb).1) (fun b hb => (hA b hb).2) h1 (.v y)
 | wit z rows len b hs hl =>
  refine .wit _ _ _ A (by cases hr <;> rfl) (fun b hb => (hA b hb).1) (fun b hb => (hA b hb).2) (fun w' hw => ⟨fun _ hb => hb, ?_⟩) (hr.leA hl hA)
  refine (hr.solid hB hs).keep (fun b hf => ?_)
  have e := hw b hf.2.2
  refine ⟨e, ?_, owned_nil _ _, hf.2.2⟩
  have := Array.getElem?_eq_getElem hf.1
  rw [this] at e
  exact (Array.getElem?_eq_some_iff.1 e).1
theorem Sv.ra {a b : AV} {x : Value} (h : Sv A a b) (hS : ∀ b, S b → ¬ A b) (hk : ∀ b, b < w.heap.size → ¬ S b → w'.heap[b]? = w.heap[b]?) (hz : w.heap.size ≤ w'.heap.size) (hown : ∀ b, owned nu o' b → owned nu o b) (hh : ∀ id len, hdrOk o id len → hdrOk o' id len) (hr : RA D nu o w a x) : RA D nu o' w' b x := by
 cases h with
 | undef => exact .undef x
 | v y => rw [hr.v_eq]; exact .v y
 | ptr id len z row off => cases hr with | ptr _ _ _ _ _ b h1 h2 => exact .ptr _ _ _ _ _ b (hh _ _ h1) h2
 | vec id len => cases hr with | vec _ _ h1 h2 => exact .vec _ _ (hh _ _ h1) h2
 | ev y => cases hr with | wit _ _ _ S' _ _ _ _ h3 => rw [h3.v_eq]; exact .v y
 | wit a b hw =>
  cases hr with
  | wit _ _ _ S' h0 h1 hc h2 h3 =>
   have hs' : ∀ k, S' k → A k := (h2 w (fun _ _ => rfl)).1
   have := (h2 w' (fun k hk' => hk k (h1 k hk').1 (fun q => hS k q (hs' k hk')))).2
   exact this.tr (n := 0) (fun k hf => ⟨hf.1, fun ho => (h1 k hf.2.2).2.1 (hown k ho), (h1 k hf.2.2).2.2⟩) (fun id len hlt => by omega) hw

/-! ### states told anew, cell by cell -/
def RelL (R : AV → AV → Prop) : List AV → List AV → Prop
 | [], [] => True
 | a :: l, b :: m => R a b ∧ RelL R l m
 | _, _ => False
def RelR (R : AV → AV → Prop) : List (List AV) → List (List AV) → Prop
 | [], [] => True
 | a :: l, b :: m => RelL R a b ∧ RelR R l m
 | _, _ => False
def RelO (R : AV → AV → Prop) : List (Option AObj) → List (Option AObj) → Prop
 | [], [] => True
 | _ :: l, none :: m => RelO R l m
 | some x :: l, some y :: m => (y.T = x.T ∧ y.z = x.z ∧ y.isV = x.isV ∧ RelR R x.rows y.rows) ∧ RelO R l m
 | _, _ => False
theorem RelL.get {R : AV → AV → Prop} : ∀ {l m : List AV}, RelL R l m → l.length = m.length ∧ ∀ (i : Nat) c', m[i]? = some c' → ∃ c, l[i]? = some c ∧ R c c'
 | [], [], _ => ⟨rfl, fun i c h => by simp at h⟩
 | a :: l, b :: m, h => by
  obtain ⟨h1, h2⟩ := RelL.get h.2
  refine ⟨by simp [h1], fun i c hc => ?_⟩
  cases i with
  | zero => simp at hc; subst hc; exact ⟨a, rfl, h.1⟩
  | succ i => simpa using h2 i c (by simpa using hc)
 | [], _ :: _, h => h.elim
 | _ :: _, [], h => h.elim
theorem RelR.get {R : AV → AV → Prop} : ∀ {l m : List (List AV)}, RelR R l m → l.length = m.length ∧ ∀ (i : Nat) c', m[i]? = some c' → ∃ c, l[i]? = some c ∧ RelL R c c'
 | [], [], _ => ⟨rfl, fun i c h => by simp at h⟩
 | a :: l, b :: m, h => by
  obtain ⟨h1, h2⟩ := RelR.get h.2
  refine ⟨by simp [h1], fun i c hc => ?_⟩
  cases i with
  | zero => simp at hc; subst hc; exact ⟨a, rfl, h.1⟩
  | succ i => simpa using h2 i c (by simpa using hc)
 | [], _ :: _, h => h.elim
 | _ :: _, [], h => h.elim
theorem RelO.get {R : AV → AV → Prop} : ∀ {l m : List (Option AObj)}, RelO R l m → l.length = m.length ∧ ∀ (i : Nat) y, m[i]? = some (some y) → ∃ x, l[i]? = some (some x) ∧ y.T = x.T ∧ y.z = x.z ∧ y.isV = x.isV ∧ RelR R x.rows y.rows
 | [], [], _ => ⟨rfl, fun i c h => by simp at h⟩
 | a :: l, none :: m, h => by
  have h' : RelO R l m := by cases a <;> exact h
  obtain ⟨h1, h2⟩ := RelO.get h'
  refine ⟨by simp [h1], fun i c hc => ?_⟩
  cases i with
  | zero => simp at hc
  | succ i => simpa using h2 i c (by simpa using hc)
 | some x :: l, some y :: m, h => by
  obtain ⟨h1, h2⟩ := RelO.get h.2
  refine ⟨by simp [h1], fun i c hc => ?_⟩
  cases i with
  | zero => simp at hc; subst hc; exact ⟨x, rfl, h.1⟩
  | succ i => simpa using h2 i c (by simpa using hc)
 | none :: _, some _ :: _, h => h.elim
 | [], _ :: _, h => h.elim
 | _ :: _, [], h => by rename_i a l; cases a <;> exact h.elim
theorem RelO.hl {R : AV → AV → Prop} {x y : AObj} (h : y.isV = x.isV) (k : RelR R x.rows y.rows) : y.hl = x.hl := by simp only [AObj.hl, h, k.get.1]
theorem RelO.own {R : AV → AV → Prop} (h : RelO R o o') : ∀ b, owned nu o' b → owned nu o b := fun b ⟨id, y, h1, h2⟩ => by
 obtain ⟨x, q1, q2, q3, q4, q5⟩ := h.get.2 id y h1
 exact ⟨id, x, q1, by rw [← RelO.hl q4 q5]; exact h2⟩
theorem RelO.hdr {R : AV → AV → Prop} (h : RelO R o o') : ∀ id len, hdrOk o id len → hdrOk o' id len := fun id len ⟨ob, h1, h2⟩ => by
 have hlt : id < o'.length := by rw [← h.get.1]; exact (List.getElem?_eq_some_iff.1 h1).1
 refine ⟨_, List.getElem?_eq_getElem hlt, fun y hy => ?_⟩
 obtain ⟨x, q1, q2, q3, q4, q5⟩ := h.get.2 id y (by rw [List.getElem?_eq_getElem hlt, hy])
 rw [h1] at q1
 rw [RelO.hl q4 q5]
 exact h2 x (Option.some.inj q1)
theorem RO.conv {R : AV → AV → Prop} (h : RO D nu o w) (hO : RelO R o o') (hR : ∀ a b x, R a b → RA D nu o w a x → RA D nu o' w' b x) (hw : ∀ b, owned nu o b → w'.heap[b]? = w.heap[b]?) (hz : w.heap.size ≤ w'.heap.size) (hg : GlobOk D nu o' w') : RO D nu o' w' := by
 refine ⟨fun id y hy => ?_, fun b hb => h.up b (Nat.le_trans hz hb), fun i1 i2 y1 y2 b k1 k2 hne k3 => ?_, hg⟩
 ·obtain ⟨x, q1, q2, q3, q4, q5⟩ := hO.get.2 id y hy
  have hrow : ∀ (i : Nat) row', y.rows[i]? = some row' → ∃ row, x.rows[i]? = some row ∧ row'.length = row.length ∧ ∀ (j : Nat) c', row'[j]? = some c' → ∃ c, row[j]? = some c ∧ ∀ v, RA D nu o w c v → RA D nu o' w' c' v := fun i row' hi => by
   obtain ⟨row, p1, p2⟩ := q5.get.2 i row' hi
   refine ⟨row, p1, p2.get.1.symm, fun j c' hc => ?_⟩
   obtain ⟨c, p3, p4⟩ := p2.get.2 j c' hc
   exact ⟨c, p3, fun v hv => hR c c' v p4 hv⟩
  rcases h.obj id x q1 with ⟨e1, e2, e3⟩ | ⟨g, cur, hb⟩ | ⟨g, es, cl, hmp⟩
  ·refine .inl ⟨q4.trans e1, ?_, e3⟩
   have := q5.get.1; rw [e2] at this
   exact List.eq_nil_of_length_eq_zero this.symm
  ·refine .inr (.inl ⟨g, cur, by rw [q2]; exact (hw g ⟨id, x, q1, hb.blkEq⟩).trans hb.blk, hb.dom, fun hv => ?_, fun hv => ?_, by rw [q3]; exact hb.z, fun i row' hi => ?_, fun i j row' c' v p1 p2 p3 => ?_, fun i j row' c' v p1 p2 p3 => ?_⟩)
   ·rw [← q5.get.1, q3]; exact hb.box (q4 ▸ hv)
   ·rw [← q5.get.1, q3]; exact hb.vec (q4 ▸ hv)
   ·obtain ⟨row, p1, p2, _⟩ := hrow i row' hi
    rw [p2, q3]; exact hb.row i row p1
   ·obtain ⟨row, r1, r2, r3⟩ := hrow i row' p1
    obtain ⟨c, r4, r5⟩ := r3 j c' p2
    rw [q3] at p3
    exact r5 v (hb.cell i j row c v r1 r4 p3)
   ·obtain ⟨row, r1, r2, r3⟩ := hrow i row' p1
    obtain ⟨c, r4, r5⟩ := r3 j c' p2
    rw [q3] at p3
    exact hb.one i j row c v r1 r4 p3
  ·exact .inr (.inr ⟨g, es, cl, hmp.rows (hw g ⟨id, x, q1, hmp.blkEq⟩) hmp.dom rfl q4 q3 q5.get.1.symm hrow⟩)
 ·obtain ⟨x1, a1, _, _, a4, a5⟩ := hO.get.2 i1 y1 k1
  obtain ⟨x2, b1, _, _, b4, b5⟩ := hO.get.2 i2 y2 k2
  rw [RelO.hl a4 a5] at k3
  rw [RelO.hl b4 b5]
  exact h.sep i1 i2 x1 x2 b a1 b1 hne k3
theorem wrapS_of {s sA : AS} (hy : sA.y = s.y) (ht : RelL (Wp A) s.t sA.t) (ho : RelO (Wp A) s.o sA.o) (hf : sA.o.map Option.isSome = s.o.map Option.isSome) : WrapS A s sA := by
 refine ⟨hy, fun f D nu a w hs hA hB => ?_⟩
 have hm : Mono nu s.o w nu sA.o w := ⟨rfl, rfl, rfl, Nat.le_refl _, fun id len hh => ⟨ho.hdr id len hh, rfl⟩, fun b _ hno => ⟨rfl, fun h => hno (ho.own b h)⟩⟩
 have hback : ∀ (id : Nat) (x : AObj), s.o[id]? = some (some x) → ∃ y : AObj, sA.o[id]? = some (some y) ∧ y.hl = x.hl := fun id x hx => by
  have hlt : id < sA.o.length := by rw [← ho.get.1]; exact (List.getElem?_eq_some_iff.1 hx).1
  have e := congrArg (fun l => l[id]?) hf
  simp only [List.getElem?_map, hx, Option.map_some, Option.isSome_some, List.getElem?_eq_getElem hlt] at e
  cases hq : sA.o[id] with
  | none => rw [hq] at e; cases e
  | some y =>
   have hy' : sA.o[id]? = some (some y) := by rw [List.getElem?_eq_getElem hlt, hq]
   obtain ⟨x', p1, _, _, p4, p5⟩ := ho.get.2 id y hy'
   rw [hx] at p1; cases p1
   exact ⟨y, hy', RelO.hl p4 p5⟩
 refine ⟨⟨hs.ro.conv ho (fun a b x h hr => (h.ra hA hB hr).mono hm (fun _ _ h => h)) (fun _ _ => rfl) (Nat.le_refl _) (hs.ro.gl.mono hm (fun _ _ h => h)), ⟨by rw [← ht.get.1]; exact hs.tm.len, fun i c x h1 h2 => ?_⟩, hs.dfr⟩, hm, ⟨rfl, rfl, rfl, Nat.le_refl _, fun id len hh => ⟨?_, rfl⟩, fun b _ hno => ⟨rfl, fun ⟨id, x, h1, h2⟩ => ?_⟩⟩⟩
 ·obtain ⟨c0, q1, q2⟩ := ht.get.2 i c h1
  exact (q2.ra hA hB (hs.tm.at' i c0 x q1 h2)).mono hm (fun _ _ h => h)
 ·obtain ⟨ob, k1, k2⟩ := hh
  have hlt : id < s.o.length := by rw [ho.get.1]; exact (List.getElem?_eq_some_iff.1 k1).1
  refine ⟨_, List.getElem?_eq_getElem hlt, fun x hx => ?_⟩
  obtain ⟨y, q1, q2⟩ := hback id x (by rw [List.getElem?_eq_getElem hlt, hx])
  rw [k1] at q1
  rw [← q2]; exact k2 y (Option.some.inj q1)
 ·obtain ⟨y, q1, q2⟩ := hback id x h1
  exact hno ⟨id, y, q1, by rw [q2]; exact h2⟩

theorem TE.up {w : World} {x : Value} {S S' : Nat → Prop} (h : TE S w x) (hS : ∀ b, S b → S' b) : TE S' w x := h.keep hS (fun _ _ => rfl)
theorem TP.up {w : World} {x : Value} {S S' : Nat → Prop} (h : TP S w x) (hS : ∀ b, S b → S' b) : TP S' w x :=
 TL.keep h hS (fun _ _ => rfl) (fun n C hp i hi => ⟨(hp i hi).1, (hp i hi).2.imp fun x hx => ⟨hx.1, hx.2.up hS⟩⟩)
theorem overC_query {oc : Oper} {c : Call} {s s4 : AS} {xo : Operand} {p q r : AV} {ra sl : Int} (hop : oc.op = .call c) (hc : c.callee = .value (.func 11)) (hargs : c.args = #[xo]) (hx : s.ev xo = .agg [.wit (TPp A) p, .wit (TLp A 71 13) q, .wit (TLp A 64 6) r, .v (.int .i64 ra), .v (.int .i64 sl)])
  (hy : s4.y = s.y) (ht : RelL (Sv A) (s.put oc.dst .undef s.o).t s4.t) (ho : RelO (Sv A) s.o s4.o) : OverC Try.prog A oc s s4 := by
 refine ⟨hy, ho.get.1.symm, fun hG f D nu a w next Q hs hk => ?_⟩
 have hra := hs.ev xo
 rw [hx] at hra
 generalize hq : a.eval xo = vx at hra
 cases hra with
 | agg _ xs h1 h2 h3 =>
 obtain ⟨xs⟩ := xs
 match xs, h1 with
 | [x0, x1, x2, x3, x4], _ =>
 have r0 := h2 0 _ x0 rfl rfl
 have r1 := h2 1 _ x1 rfl rfl
 have r2 := h2 2 _ x2 rfl rfl
 have r3 := h2 3 _ x3 rfl rfl
 have r4 := h2 4 _ x4 rfl rfl
 obtain rfl := r3.v_eq
 obtain rfl := r4.v_eq
 cases r0 with
 | wit _ _ _ S0 a0 a1 ac a2 a3 =>
 cases r1 with
 | wit _ _ _ S1 b0 b1 bc b2 b3 =>
 cases r2 with
 | wit _ _ _ S2 c0 c1 cc c2 c3 =>
 have d0 := a2 w (fun _ _ => rfl)
 have d1 := b2 w (fun _ _ => rfl)
 have d2 := c2 w (fun _ _ => rfl)
 let S : Nat → Prop := fun b => S0 b ∨ S1 b ∨ S2 b
 have hS : ∀ b, S b → ¬ A b ∧ Fz D nu s.o w b ∧ ∃ C T k, w.heap[b]? = some (.cells C T k) := fun b hb => by
  rcases hb with hb | hb | hb
  ·exact ⟨d0.1 b hb, a1 b hb, ac b hb⟩
  ·exact ⟨d1.1 b hb, b1 b hb, bc b hb⟩
  ·exact ⟨d2.1 b hb, c1 b hb, cc b hb⟩
 have hcall := overQuery_w (S := S) (w := w) (p := x0) (c := x1) (o := x2) (ra := ra) (sl := sl) (fun b hb => (hS b hb).2.1.1) (d0.2.up (fun _ h => .inl h)) (TL.keep d1.2 (fun _ h => .inr (.inl h)) (fun _ _ => rfl) (fun _ _ h => h)) (TL.keep d2.2 (fun _ h => .inr (.inr h)) (fun _ _ => rfl) (fun _ _ h => h))
 unfold Oper.wp
 have hrun : (execOp a.eval oc).run Try.prog w = .ok (.enter 11 #[.agg #[x0, x1, x2, .int .i64 ra, .int .i64 sl]]) w := by
  have hcl : callOk Try.prog 11 = true := by kernel_rfl
  have hfe : a.eval (.func 11) = .func (.func 11) #[] #[] := rfl
  simp only [execOp, hop, resolve, hc, hargs, hfe, Deferred.ofValue, Sem.run_bind, Sem.run_pure, Result.andThen_ok, invoke, List.map_toArray, List.map_cons, List.map_nil, hq]
  exact run_callFunc hcl _ w
 rw [hrun, Oper.upon_enter]
 refine hcall.mono ?_
 rintro e w' ⟨rfl, hO⟩
 have hkeep : ∀ b, b < w.heap.size → ¬ S b → w'.heap[b]? = w.heap[b]? := fun b h1 h2 => hO.same b h1 h2
 have hsame : ∀ b, owned nu s.o b → w'.heap[b]? = w.heap[b]? := fun b hb => hkeep b (hs.ro.owned_lt hb) (fun h => (hS b h).2.1.2.1 hb)
 have hp : RS f D nu (s.put oc.dst .undef s.o) (a.put oc.dst (.tuple #[])) w := hs.put (.refl nu s.o w) hs.ro (.undef _) oc.dst
 have hconv : ∀ (a b : AV) (x : Value), Sv A a b → RA D nu s.o w a x → RA D nu s4.o w' b x := fun a b x h hr => h.ra (S := S) (fun b hb => (hS b hb).1) hkeep hO.size (ho.own) (ho.hdr) hr
 refine hk S (.tuple #[]) w' nu hS ⟨hO.os, hO.tape, hO.output, hO.size, fun id len hlt hh => ⟨ho.hdr id len hh, rfl⟩, fun b h1 h2 h3 => ⟨hkeep b h1 h3, fun h => h2 (ho.own b h)⟩⟩ ⟨hs.ro.conv ho hconv hsame hO.size (fun g T cs hg => ?_), ⟨?_, fun i cc x k1 k2 => ?_⟩, ?_⟩
 ·obtain ⟨⟨t, q1⟩, q2, q3⟩ := hs.ro.gl g T cs hg
  exact ⟨⟨t, (hkeep g (Array.getElem?_eq_some_iff.1 q1).1 (fun h => (hS g h).1 (hG g T cs hg))).trans q1⟩, fun h => q2 (ho.own g h), q3⟩
 ·rw [← ht.get.1]; exact hp.tm.len
 ·obtain ⟨c0, q1, q2⟩ := ht.get.2 i cc k1
  have hpo : (s.put oc.dst .undef s.o).o = s.o := by cases oc.dst <;> rfl
  have := hp.tm.at' i c0 x q1 k2
  rw [hpo] at this
  exact hconv c0 cc x q2 this
 ·refine hp.dfr.keep hO.size (fun b ob hd hb hn => ?_)
  refine (hkeep b (Array.getElem?_eq_some_iff.1 hb).1 (fun h => ?_)).trans hb
  obtain ⟨_, _, C, T, k, e⟩ := hS b h
  rw [e] at hb; cases hb; cases hn
end
end Go.Proofs.Ytldnlbcibmmbbaa
