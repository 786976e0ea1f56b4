/- Calls that see what is owned and leave it as it is; results that are new; own rows that are written over in place and cut. -/
import Derived.Test.YtldnlbcibmmbbaaRAbsV
import Derived.Test.YtldnlbcibmmbbaaRAbsW
import Derived.Sort.Grow
import Derived.Test.YtldnlbcibmmbbaaROnceC
import Derived.Test.YtldnlbcibmmbbaaRTy
import Derived.Test.YtldnlbcibmmbbaaREnc
set_option linter.unusedSimpArgs false
set_option linter.unusedVariables false
namespace Go.Proofs.Ytldnlbcibmmbbaa
open Go.RowKit

section
variable {D : Nat → Prop} {nu : Nat → Nat → Value} {o : List (Option AObj)} {w : World} {P : Program}

def FrzS (o : List (Option AObj)) (a r : AV) : Prop := ∀ (D : Nat → Prop) (nu : Nat → Nat → Value) (w : World) (x : Value), RO D nu o w → RA D nu o w a x → RA D nu [] w r x
def FrzL (o : List (Option AObj)) : List AV → List AV → Prop
 | [], [] => True
 | a :: l, b :: m => FrzS o a b ∧ FrzL o l m
 | _, _ => False
theorem FrzL.at' : ∀ {l m : List AV}, FrzL o l m → l.length = m.length ∧ ∀ (i : Nat) a b, l[i]? = some a → m[i]? = some b → FrzS o a b
 | [], [], _ => ⟨rfl, fun i a b h => by simp at h⟩
 | a :: l, b :: m, h => by
  obtain ⟨h1, h2⟩ := FrzL.at' h.2
  refine ⟨by simp [h1], fun i x y k1 k2 => ?_⟩
  cases i with
  | zero => simp at k1 k2; subst k1; subst k2; exact h.1
  | succ i => exact h2 i x y (by simpa using k1) (by simpa using k2)

def CallN (P : Program) (f : FuncId) (args : List AV) (r : AV) : Prop := (wfL 0 args = true ∧ r.wf 0 = true) ∧ callOk P f = true ∧ ∀ D nu w vargs, RO D nu [] w → RAs D nu [] w args vargs → Calls P f vargs w (fun e w' => ∃ v, e = .returned v ∧ Below w.heap.size w w' ∧ RA (fun b => w.heap.size ≤ b) nu [] w' r v)
def AFzN (o : List (Option AObj)) (r0 r : AV) : Prop := ∀ (D : Nat → Prop) (nu : Nat → Nat → Value) (w : World) (x : Value), RO D nu o w → RA D nu o w r0 x → RA (owned nu o) nu [] w r x

/-! ### own rows of plain values, written over in place -/
def rowsV {α : Type} (enc : α → Value) (l : List α) : List (List AV) := l.map (fun a => [.v (enc a)])
/-! ### own objects, picked and numbered anew -/
def SelT (f : Nat → Nat) (n : Nat) : List AV → List AV → Prop
 | [], [] => True
 | a :: l, c :: m => (c = .undef ∨ (a = c.ren f ∧ c.wf n = true)) ∧ SelT f n l m
 | _, _ => False
end
end Go.Proofs.Ytldnlbcibmmbbaa

namespace Go.Proofs.Ytldnlbcibmmbbaa
open Go.RowKit

mutual
theorem ren_lt {f : Nat → Nat} {m : Nat} (hf : ∀ k, k < m → f k = k) : ∀ a : AV, a.wf m = true → a.ren f = a
 | .undef, _ => rfl
 | .v _, _ => rfl
 | .agg cs, h => by rw [AV.ren, renL_lt hf cs h]
 | .tup cs, h => by rw [AV.ren, renL_lt hf cs h]
 | .slc z rows len, h => by rw [AV.ren, renR_lt hf rows h]
 | .vp cs, h => by rw [AV.ren, renL_lt hf cs h]
 | .ptr id _ _ _ _, h => by simp [AV.wf] at h; rw [AV.ren, hf id h]
 | .vec id _, h => by simp [AV.wf] at h; rw [AV.ren, hf id h]
 | .fn g a b, h => by
  simp only [AV.wf, Bool.and_eq_true] at h
  rw [AV.ren, renL_lt hf a h.1, renL_lt hf b h.2]
 | .full a, h => by rw [AV.ren, ren_lt hf a h]
 | .wit p a, h => by rw [AV.ren, ren_lt hf a h]
 | .mp rows, h => by rw [AV.ren, renR_lt hf rows h]
theorem renL_lt {f : Nat → Nat} {m : Nat} (hf : ∀ k, k < m → f k = k) : ∀ l : List AV, wfL m l = true → renL f l = l
 | [], _ => rfl
 | a :: l, h => by
  simp only [wfL, Bool.and_eq_true] at h
  rw [renL, ren_lt hf a h.1, renL_lt hf l h.2]
theorem renR_lt {f : Nat → Nat} {m : Nat} (hf : ∀ k, k < m → f k = k) : ∀ l : List (List AV), wfR m l = true → renR f l = l
 | [], _ => rfl
 | a :: l, h => by
  simp only [wfR, Bool.and_eq_true] at h
  rw [renR, renL_lt hf a h.1, renR_lt hf l h.2]
end
section
variable {D : Nat → Prop} {nu : Nat → Nat → Value} {o : List (Option AObj)} {w : World} {P : Program}
end
end Go.Proofs.Ytldnlbcibmmbbaa

namespace Go.Proofs.Ytldnlbcibmmbbaa
open Go.RowKit

section
variable {o : List (Option AObj)}
end

def rwB (N : Nat) (g : Nat → Bool) : List (List AV) := (List.range N).map (fun j => [.v (.bool (g j))])
def mxB (N : Nat) (f : Nat → Nat → Bool) : List (List AV) := (List.range N).map (fun i => [.slc 1 (rwB N (f i)) N])
def rid (k i : Nat) : Nat := k + 1 + 2 * i
def outRows (k N m : Nat) : List (List AV) := (List.range m).map (fun i => [.vec (rid k i) N])

theorem rwB_len (N : Nat) (g : Nat → Bool) : (rwB N g).length = N := by simp [rwB]
theorem mxB_len (N : Nat) (f : Nat → Nat → Bool) : (mxB N f).length = N := by simp [mxB]
theorem outRows_len (k N m : Nat) : (outRows k N m).length = m := by simp [outRows]
def upd2 (f : Nat → Nat → Bool) (i j : Nat) (v : Bool) : Nat → Nat → Bool := fun p q => if p = i ∧ q = j then v else f p q
theorem wf_rwB (n N : Nat) (g : Nat → Bool) : wfR n (rwB N g) = true := wfR_map _ (fun _ => rfl) _
theorem wf_mxB (n N : Nat) (f : Nat → Nat → Bool) : wfR n (mxB N f) = true := wfR_map _ (fun i => by simp only [wfL, AV.wf, wf_rwB, Bool.and_self]) _
attribute [go_sem] wf_rwB wf_mxB rwB_len mxB_len outRows_len

end Go.Proofs.Ytldnlbcibmmbbaa

namespace Go.Proofs.Ytldnlbcibmmbbaa
open Go.RowKit

section
variable {o : List (Option AObj)} {P : Program}
theorem FrzS.v (x : Value) : FrzS o (.v x) (.v x) := fun D nu w y hro hra => by rw [hra.v_eq]; exact .v x
theorem FrzS.tup {l m : List AV} (h : FrzL o l m) : FrzS o (.tup l) (.tup m) := fun D nu w x hro hra => by
 obtain ⟨h1, h2⟩ := h.at'
 cases hra with
 | tup _ xs k1 k2 =>
  refine .tup _ _ (by omega) fun i c y q1 q2 => ?_
  have hi : i < l.length := by rw [h1]; exact (List.getElem?_eq_some_iff.1 q1).1
  exact h2 i _ c (List.getElem?_eq_getElem hi) q1 D nu w y hro (k2 i _ y (List.getElem?_eq_getElem hi) q2)
theorem Call1.enterS {f : FuncId} {fn : Func} {c : Code} {args : List AV} {r : AV} (hf : P.funcs[f]? = some fn) (hb : fn.body = some c) (hc : callOk P f = true) (hok : okCode c = true) (hmx : P.follows .mixedOrders = true)
  (ha : wfL 0 args = true) (hr : r.wf 0 = true) (h : AWp P 0 c ⟨args ++ List.replicate (fn.ntmps - args.length) .undef, [], .no⟩ (AEnd P fn.results.toList (fun r0 o => FrzS o r0 r))) : Call1 P f args r := by
 obtain ⟨_, h2⟩ := CallG.enter (o := []) hf hb hc hok hmx h
 refine ⟨⟨ha, hr⟩, hc, fun D nu w vargs hro hra => (h2 D nu w vargs hro hra).mono ?_⟩
 rintro e w' ⟨v, nu', o', r0, rfl, hm, hro', hra', hz⟩
 have hm' : Mono nu [] w nu' [] w' := ⟨hm.os, hm.tape, hm.output, hm.size, fun id len hh => by obtain ⟨x, k, _⟩ := hh; simp at k, fun b hb ho => ⟨(hm.keep b hb ho).1, owned_nil _ _⟩⟩
 exact ⟨v, nu', [], r, rfl, hm', (.nil _ _ _ hro'.up (hro'.gl.nil (fun _ _ h => h))), hz _ _ _ _ hro' hra', rfl, rfl⟩
end
mutual
theorem ren_cg {f g : Nat → Nat} {m : Nat} (hf : ∀ k, k < m → f k = g k) : ∀ a : AV, a.wf m = true → a.ren f = a.ren g
 | .undef, _ => rfl
 | .v _, _ => rfl
 | .agg cs, h => by rw [AV.ren, AV.ren, renL_cg hf cs h]
 | .tup cs, h => by rw [AV.ren, AV.ren, renL_cg hf cs h]
 | .slc z rows len, h => by rw [AV.ren, AV.ren, renR_cg hf rows h]
 | .vp cs, h => by rw [AV.ren, AV.ren, renL_cg hf cs h]
 | .ptr id _ _ _ _, h => by simp [AV.wf] at h; rw [AV.ren, AV.ren, hf id h]
 | .vec id _, h => by simp [AV.wf] at h; rw [AV.ren, AV.ren, hf id h]
 | .fn g a b, h => by
  simp only [AV.wf, Bool.and_eq_true] at h
  rw [AV.ren, AV.ren, renL_cg hf a h.1, renL_cg hf b h.2]
 | .full a, h => by rw [AV.ren, AV.ren, ren_cg hf a h]
 | .wit p a, h => by rw [AV.ren, AV.ren, ren_cg hf a h]
 | .mp rows, h => by rw [AV.ren, AV.ren, renR_cg hf rows h]
theorem renL_cg {f g : Nat → Nat} {m : Nat} (hf : ∀ k, k < m → f k = g k) : ∀ l : List AV, wfL m l = true → renL f l = renL g l
 | [], _ => rfl
 | a :: l, h => by
  simp only [wfL, Bool.and_eq_true] at h
  rw [renL, renL, ren_cg hf a h.1, renL_cg hf l h.2]
theorem renR_cg {f g : Nat → Nat} {m : Nat} (hf : ∀ k, k < m → f k = g k) : ∀ l : List (List AV), wfR m l = true → renR f l = renR g l
 | [], _ => rfl
 | a :: l, h => by
  simp only [wfR, Bool.and_eq_true] at h
  rw [renR, renR, renL_cg hf a h.1, renR_cg hf l h.2]
end
end Go.Proofs.Ytldnlbcibmmbbaa
