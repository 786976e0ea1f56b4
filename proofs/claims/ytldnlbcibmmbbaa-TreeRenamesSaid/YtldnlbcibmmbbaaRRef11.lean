/- Less is told of a value: what reads as the greater reads as the less. -/
import Derived.Test.YtldnlbcibmmbbaaRLentQ
import Derived.Test.YtldnlbcibmmbbaaRRef07b
import Derived.Test.YtldnlbcibmmbbaaRAbsZ
import Derived.Test.YtldnlbcibmmbbaaRTreeD
set_option linter.unusedSimpArgs false
set_option linter.unusedVariables false
namespace Go.Proofs.Ytldnlbcibmmbbaa
open Go.RowKit

inductive Le : AV → AV → Prop
 | refl (a : AV) : Le a a
 | wit (p : (Nat → Prop) → World → Value → Prop) (a b : AV) : Le a b → Le (.wit p a) b
 | nil (z : Nat) : Le (.v (.slice none 0 0)) (.slc z [] 0)
 | agg (cs ds : List AV) : cs.length = ds.length → (∀ (i : Nat) c d, cs[i]? = some c → ds[i]? = some d → Le c d) → Le (.agg cs) (.agg ds)
 | slc (z : Nat) (rows rows' : List (List AV)) (len : Nat) : len ≤ rows'.length → rows'.length ≤ rows.length → (∀ (i : Nat) r r', rows[i]? = some r → rows'[i]? = some r' → r.length = r'.length) →
   (∀ (i j : Nat) r r' c c', rows[i]? = some r → rows'[i]? = some r' → r[j]? = some c → r'[j]? = some c' → Le c c') → Le (.slc z rows len) (.slc z rows' len)

section
variable {D : Nat → Prop} {nu : Nat → Nat → Value} {o : List (Option AObj)} {w : World} {P : Program}
theorem RA.le {a b : AV} (h : Le a b) : ∀ {x : Value}, RA D nu o w a x → RA D nu o w b x := by
 induction h with
 | refl a => exact fun h => h
 | wit p a b _ ih => intro x h; cases h with | wit _ _ _ S h0 h1 hc h2 h3 => exact ih h3
 | nil z => intro x h; obtain rfl := h.v_eq; exact .slcNil z
 | agg cs ds hl _ ih =>
  intro x h
  cases h with
  | agg _ xs h1 h2 h3 =>
   refine .agg ds xs (by omega) (fun i d y hd hy => ?_) h3
   have hi : i < cs.length := by have := (List.getElem?_eq_some_iff.1 hd).1; omega
   exact ih i cs[i] d (List.getElem?_eq_getElem hi) hd (h2 i _ y (List.getElem?_eq_getElem hi) hy)
 | slc z rows rows' len h1 h2 h3 _ ih =>
  intro x h
  have up : ∀ (i : Nat) r', rows'[i]? = some r' → ∃ r, rows[i]? = some r := fun i r' hr => ⟨_, List.getElem?_eq_getElem (by have := (List.getElem?_eq_some_iff.1 hr).1; omega)⟩
  have upj : ∀ (i j : Nat) r' c', rows'[i]? = some r' → r'[j]? = some c' → ∃ r c, rows[i]? = some r ∧ r[j]? = some c := fun i j r' c' hr hc => by
   obtain ⟨r, hr'⟩ := up i r' hr
   exact ⟨r, _, hr', List.getElem?_eq_getElem (by have := h3 i r r' hr' hr; have := (List.getElem?_eq_some_iff.1 hc).1; omega)⟩
  cases h with
  | slcNil =>
   have : rows' = [] := List.eq_nil_of_length_eq_zero (by simpa using h2)
   subst this; exact .slcNil z
  | slcOdd _ a =>
   have : rows' = [] := List.eq_nil_of_length_eq_zero (by simpa using h2)
   subst this; exact .slcOdd z a
  | slc _ _ _ b off cap f k1 k2 k3 k4 k5 k6 k7 k8 =>
   refine .slc z rows' len b off cap f h1 (by omega) k3 (fun hne => k4 (fun e => hne (by subst e; exact List.eq_nil_of_length_eq_zero (by simpa using h2)))) (fun i r' hr => ?_) (fun i j r' c' hr hc => ?_) (fun i j r' c' hr hc => ?_) (fun i j r' c' hr hc => ?_)
   ·obtain ⟨r, hr'⟩ := up i r' hr
    rw [← h3 i r r' hr' hr]; exact k5 i r hr'
   ·obtain ⟨r, c, q1, q2⟩ := upj i j r' c' hr hc
    exact k6 i j r c q1 q2
   ·obtain ⟨r, c, q1, q2⟩ := upj i j r' c' hr hc
    exact ih i j r r' c c' q1 hr q2 hc (k7 i j r c q1 q2)
   ·obtain ⟨r, c, q1, q2⟩ := upj i j r' c' hr hc
    exact k8 i j r c q1 q2
def LeL (cs ds : List AV) : Prop := cs.length = ds.length ∧ ∀ (i : Nat) c d, cs[i]? = some c → ds[i]? = some d → Le c d
theorem LeL.nil : LeL [] [] := ⟨rfl, fun i c d h => by simp at h⟩
theorem LeL.cons {c d : AV} {cs ds : List AV} (h : Le c d) (k : LeL cs ds) : LeL (c :: cs) (d :: ds) := ⟨by simp [k.1], fun i x y hx hy => by
 cases i with
 | zero => cases hx; cases hy; exact h
 | succ i => exact k.2 i x y hx hy⟩
theorem LeL.refl (cs : List AV) : LeL cs cs := ⟨rfl, fun i c d h k => by rw [h] at k; cases k; exact .refl c⟩
theorem LeL.agg {cs ds : List AV} (h : LeL cs ds) : Le (.agg cs) (.agg ds) := .agg cs ds h.1 h.2
theorem Le.rows {α : Type} {z : Nat} {f g : α → List AV} {xs : List α} {more : List (List AV)} (h : ∀ x, x ∈ xs → LeL (f x) (g x)) : Le (.slc z (xs.map f ++ more) xs.length) (.slc z (xs.map g) xs.length) := by
 have key : ∀ (i : Nat) r r', (xs.map f ++ more)[i]? = some r → (xs.map g)[i]? = some r' → LeL r r' := fun i r r' h1 h2 => by
  have hi : i < xs.length := by simpa using (List.getElem?_eq_some_iff.1 h2).1
  rw [List.getElem?_append_left (by simpa using hi)] at h1
  rw [List.getElem?_map, List.getElem?_eq_getElem hi] at h1 h2
  cases h1; cases h2
  exact h _ (List.getElem_mem hi)
 exact .slc z _ _ _ (by simp) (by simp) (fun i r r' h1 h2 => (key i r r' h1 h2).1) (fun i j r r' c c' h1 h2 h3 h4 => (key i r r' h1 h2).2 j c c' h3 h4)
theorem RAs.le {cs ds : List AV} {xs : Array Value} (h : LeL cs ds) (k : RAs D nu o w cs xs) : RAs D nu o w ds xs := ⟨by rw [← h.1]; exact k.len, fun i d x hd hx => by
 have hi : i < cs.length := by have := (List.getElem?_eq_some_iff.1 hd).1; have := h.1; omega
 exact (k.at' i cs[i] x (List.getElem?_eq_getElem hi) hx).le (h.2 i _ d (List.getElem?_eq_getElem hi) hd)⟩
theorem Call1.le {f : FuncId} {args args' : List AV} {r : AV} (h : Call1 P f args r) (hw : wfL 0 args' = true) (hl : LeL args' args) : Call1 P f args' r := h.args hw (fun _ _ _ _ k => k.le hl)
end

theorem le_lentE (x : Ex) : LeL (lentE x) (encE x) := by
 induction x using Ex.ind with
 | h k s l ih =>
  rw [lentE_eq, encE_eq]
  exact .cons (.refl _) (.cons (.refl _) (.cons (.rows ih) .nil))
theorem le_markE (i : Nat) : LeL (markE i) (encE (.mk ((8000024 + i : Nat) : Int) ⟨#[]⟩ [])) := by
 rw [encE_eq]
 exact .cons (.refl _) (.cons (.refl _) (.cons (.nil 3) .nil))
theorem le_lentP (p : Pat) : LeL (lentP p) (encP p) := .cons (.refl _) (.cons (.refl _) (.cons (.refl _) (.cons (.refl _) (.cons (.refl _) (.cons (.refl _) (.cons (.refl _) (.cons (.rows (fun x _ => le_lentE x)) .nil)))))))
theorem le_lentQ (q : Qry) : LeL (lentQ q) (encQ q) := .cons (.rows (fun p _ => le_lentP p)) (.cons (.rows (fun p _ => .refl _)) (.cons (.rows (fun p _ => .refl _)) (.cons (.refl _) (.cons (.refl _) .nil))))
theorem wf_lentQ (n : Nat) (q : Qry) : wfL n (lentQ q) = true := by simp only [lentQ, wfL, AV.wf, wfR_app, wf_lentP, wf_encC, wf_encO, wf_marksP, wf_marksC, wf_marksO, Bool.and_true, Bool.and_self]
end Go.Proofs.Ytldnlbcibmmbbaa

namespace Go.Proofs.Ytldnlbcibmmbbaa
open Go.RowKit

end Go.Proofs.Ytldnlbcibmmbbaa
