/- The document's values (ref05): the walk of Right. Printed by gen_ref05.py. -/
import Derived.Test.YtmdkgajjekbanaaDoorSRef02
import Derived.Test.YtmdkgajjekbanaaDoorSBehP
import Derived.Test.YtmdkgajjekbanaaDoorSChk
import Derived.Test.YtmdkgajjekbanaaDoorSAbsZ
import Derived.Test.YtmdkgajjekbanaaDoorSOnceC
import Derived.Test.YtmdkgajjekbanaaDoorSWalk
import Derived.Test.YtmdkgajjekbanaaDoorSEnc
import Derived.Shelf.Sort.Plain
import Derived.Shelf.Slices.CompactI
import Derived.Shelf.Slices.In.SortNone
import Derived.Shelf.Spec.SlicesGrow
import Derived.Test.YtmdkgajjekbanaaDoorSAbsW
set_option linter.unusedSimpArgs false
set_option linter.unusedVariables false
namespace Go.Proofs.YtmdkgajjekbanaaDoor
open Go.RowKit

theorem noB_is (s : ByteArray) : (s.toList == (⟨#[]⟩ : ByteArray).toList) = noB s := by
  rw [Bool.eq_iff_iff, toList_inj]
  unfold noB
  rw [decide_eq_true_iff]
  constructor
  · rintro rfl; rfl
  · intro h
    obtain ⟨⟨l⟩⟩ := s
    cases l with
    | nil => rfl
    | cons x l => simp [ByteArray.size] at h

end Go.Proofs.YtmdkgajjekbanaaDoor

namespace Go.Proofs.YtmdkgajjekbanaaDoor
open Go.RowKit

@[go_sem] theorem wf_mrows (n : Nat) (l : List (ByteArray × Int)) : wfR n (mrows l) = true := wfR_map _ (fun _ => rfl) l
def nmR : Option (List ByteArray) → AV
  | none => .tup [.v (.map none), .v (.bool false)]
  | some _ => .tup [.vec 1 0, .v (.bool true)]

end Go.Proofs.YtmdkgajjekbanaaDoor

namespace Go.Proofs.YtmdkgajjekbanaaDoor
open Go.RowKit

end Go.Proofs.YtmdkgajjekbanaaDoor

namespace Go.Proofs.YtmdkgajjekbanaaDoor
open Go.RowKit

section
variable {P : Program}
end

def encN (l : List Nat) : List (List AV) := l.map (fun k : Nat => [.v (.int .i64 (k : Int))])

end Go.Proofs.YtmdkgajjekbanaaDoor

namespace Go.Proofs.YtmdkgajjekbanaaDoor
open Go.RowKit

attribute [go_sem] Value.oneCell'
def mk1 (i : Nat) : AV := .v (.int .i64 ((8000024 + i : Nat) : Int))
def markE (i : Nat) : List AV := [mk1 i, .v (.string ⟨#[]⟩), .v (.slice none 0 0)]
def mksN (f : Nat → List AV) : Nat → List (List AV)
  | 0 => []
  | n + 1 => mksN f n ++ [f n]
@[go_sem] theorem mksN_len (f : Nat → List AV) : ∀ n, (mksN f n).length = n
  | 0 => rfl
  | n + 1 => by rw [mksN, List.length_append, mksN_len f n]; rfl
def marksOf (f : Nat → List AV) : List (List AV) := mksN f 12
mutual
def lentE : Ex → List AV
  | .mk k s l => [.v (.int .i64 k), .v (.string s), .slc 3 (lentEs l ++ marksOf markE) l.length]
def lentEs : List Ex → List (List AV)
  | [] => []
  | x :: xs => lentE x :: lentEs xs
end
theorem lentEs_eq : ∀ l : List Ex, lentEs l = l.map lentE
  | [] => rfl
  | x :: xs => by rw [lentEs, lentEs_eq xs, List.map_cons]
theorem wfR_app (n : Nat) (a b : List (List AV)) : wfR n (a ++ b) = (wfR n a && wfR n b) := by
  induction a with
  | nil => simp [wfR]
  | cons x a ih => simp [wfR, ih, Bool.and_assoc]
theorem wf_mksN (n : Nat) (f : Nat → List AV) (h : ∀ i, wfL n (f i) = true) : ∀ k, wfR n (mksN f k) = true
  | 0 => rfl
  | k + 1 => by simp [mksN, wfR_app, wf_mksN n f h k, wfR, h]
theorem wf_marks (n : Nat) (f : Nat → List AV) (h : ∀ i, wfL n (f i) = true) : wfR n (marksOf f) = true := wf_mksN n f h 12
@[go_sem] theorem marks_len (f : Nat → List AV) : (marksOf f).length = 12 := mksN_len f 12
theorem wf_markE (n : Nat) (i : Nat) : wfL n (markE i) = true := rfl
theorem wf_lentE1 (n : Nat) (x : Ex) : wfL n (lentE x) = true := by
  induction x using Ex.ind with
  | h k s l ih =>
    rw [lentE, lentEs_eq]
    simp only [wfL, AV.wf, Bool.and_true, Bool.true_and, wfR_app, wf_marks n _ (wf_markE n)]
    exact wfR_of (fun r hr => by obtain ⟨x, hx, rfl⟩ := List.mem_map.1 hr; exact ih x hx)
theorem wf_lentE (n : Nat) (l : List Ex) : wfR n (l.map lentE) = true := wfR_map _ (wf_lentE1 n) l
attribute [go_sem] wf_lentE1 wf_lentE wfR_app
@[go_sem] theorem wf_mksE (n k : Nat) : wfR n (mksN markE k) = true := wf_mksN n _ (wf_markE n) k
@[go_sem] theorem wf_marksE (n : Nat) : wfR n (marksOf markE) = true := wf_marks n _ (wf_markE n)

set_option maxRecDepth 100000 in
theorem mark_c (i : Nat) (hi : i < 1000) : Call1 Tryd.prog 51 [.v (.int .i64 1), .v (.int .i64 i)] (mk1 i) := by
  unfold mk1
  (refine Call1.enter Tryd.func51 rfl (by kernel_rfl) (by kernel_rfl) rfl (by first | rfl | (simp only [go_sem, Bool.and_self, Bool.and_true, Bool.true_and])) (by first | rfl | (simp only [go_sem, Bool.and_self, Bool.and_true, Bool.true_and])) ?_; simp only [Tryd.ntmps51, Tryd.results51, List.length_cons, List.length_nil, Nat.reduceAdd, Nat.reduceSub, List.replicate_succ, List.replicate_zero, List.cons_append, List.nil_append])
  repeat (first | (with_reducible first | refine Stp.up ?_ | refine fun (K : AS → Prop) hK => ?_ | refine wE ?_ | refine wD ?_ | refine wK ?_ | refine wF ?_ | refine adrawG_k (by decide) ?_ | refine adrawG_e (by decide) ?_ | (refine hK _ ?_; clear hK; clear K)) | simp only [go_sem] | (with_reducible refine And.intro (by omega) ?_) | (clear hK; clear K))
  rw [wrap_id (n := (1 : Int) + 7) (by decide) (by decide)]
  rw [wrap_id (n := (1000003 : Int) * (1 + 7)) (by decide) (by decide)]
  rw [wrap_id (by omega) (by omega)]
  congr 2

def Ex.lens (n : Nat) (x : Ex) : Prop := ∀ y, y ∈ exParts x → y.kids.length ≤ n
end Go.Proofs.YtmdkgajjekbanaaDoor

namespace Go.Proofs.YtmdkgajjekbanaaDoor
open Go.RowKit

def markP (i : Nat) : List AV := [.v (.string ⟨#[]⟩), .v (.string ⟨#[]⟩), .v (.bool false), .v (.string ⟨#[109]⟩), .v (.string ⟨#[]⟩), mk1 i, .v (.string ⟨#[]⟩), .v (.slice none 0 0)]
def markC (i : Nat) : List AV := [mk1 i, .v (.int .i64 0), .v (.string ⟨#[]⟩), .v (.string ⟨#[]⟩), .v (.int .i64 0), .v (.int .i64 0), .v (.string ⟨#[]⟩), .v (.int .i64 0), .v (.string ⟨#[]⟩), .v (.string ⟨#[]⟩), .v (.int .i64 0), .v (.int .i64 0), .v (.string ⟨#[]⟩)]
def markO (i : Nat) : List AV := [.v (.int .i64 0), .v (.string ⟨#[]⟩), .v (.string ⟨#[]⟩), .v (.int .i64 0), mk1 i, .v (.string ⟨#[]⟩)]
def lentP (p : Pat) : List AV := [.v (.string p.frm), .v (.string p.to), .v (.bool p.path), .v (.string p.label), .v (.string p.name), .v (.int .i64 p.expr.kind), .v (.string p.expr.label), .slc 3 (p.expr.kids.map lentE ++ marksOf markE) p.expr.kids.length]
theorem wf_lentP1 (n : Nat) (p : Pat) : wfL n (lentP p) = true := by simp only [lentP, wfL, AV.wf, wfR_app, wf_lentE, wf_marksE, Bool.and_true, Bool.and_self]
@[go_sem] theorem wf_lentP (n : Nat) (l : List Pat) : wfR n (l.map lentP) = true := wfR_map _ (wf_lentP1 n) l
@[go_sem] theorem wf_mksP (n k : Nat) : wfR n (mksN markP k) = true := wf_mksN n _ (fun _ => rfl) k
@[go_sem] theorem wf_marksP (n : Nat) : wfR n (marksOf markP) = true := wf_mksN n _ (fun _ => rfl) 12
@[go_sem] theorem wf_mksC (n k : Nat) : wfR n (mksN markC k) = true := wf_mksN n _ (fun _ => rfl) k
@[go_sem] theorem wf_marksC (n : Nat) : wfR n (marksOf markC) = true := wf_mksN n _ (fun _ => rfl) 12
@[go_sem] theorem wf_mksO (n k : Nat) : wfR n (mksN markO k) = true := wf_mksN n _ (fun _ => rfl) k
@[go_sem] theorem wf_marksO (n : Nat) : wfR n (marksOf markO) = true := wf_mksN n _ (fun _ => rfl) 12

def Qry.lens (n : Nat) (q : Qry) : Prop := q.pats.length ≤ n ∧ q.conds.length ≤ n ∧ q.ret.length ≤ n ∧ ∀ p, p ∈ q.pats → p.expr.lens n

end Go.Proofs.YtmdkgajjekbanaaDoor

namespace Go.Proofs.YtmdkgajjekbanaaDoor
open Go.RowKit

inductive Le : AV → AV → Prop
  | refl (a : AV) : Le a a
  | nil (z : Nat) : Le (.v (.slice none 0 0)) (.slc z [] 0)
  | agg (cs ds : List AV) : cs.length = ds.length → (∀ (i : Nat) c d, cs[i]? = some c → ds[i]? = some d → Le c d) → Le (.agg cs) (.agg ds)
  | slc (z : Nat) (rows rows' : List (List AV)) (len : Nat) : len ≤ rows'.length → rows'.length ≤ rows.length → (∀ (i : Nat) r r', rows[i]? = some r → rows'[i]? = some r' → r.length = r'.length) →
      (∀ (i j : Nat) r r' c c', rows[i]? = some r → rows'[i]? = some r' → r[j]? = some c → r'[j]? = some c' → Le c c') → Le (.slc z rows len) (.slc z rows' len)

section
variable {D : Nat → Prop} {nu : Nat → Nat → Value} {o : List (Option AObj)} {w : World} {P : Program}
theorem RA.le {a b : AV} (h : Le a b) : ∀ {x : Value}, RA D nu o w a x → RA D nu o w b x := by
  induction h with
  | refl a => exact fun h => h
  | nil z => intro x h; obtain rfl := h.v_eq; exact .slcNil z
  | agg cs ds hl _ ih =>
    intro x h
    cases h with
    | agg _ xs h1 h2 h3 =>
      refine .agg ds xs (by omega) (fun i d y hd hy => ?_) h3
      have hi : i < cs.length := by have := (List.getElem?_eq_some_iff.1 hd).1; omega
      exact ih i cs[i] d (List.getElem?_eq_getElem hi) hd (h2 i _ y (List.getElem?_eq_getElem hi) hy)
  | slc z rows rows' len h1 h2 h3 _ ih =>
    intro x h
    have up : ∀ (i : Nat) r', rows'[i]? = some r' → ∃ r, rows[i]? = some r := fun i r' hr => ⟨_, List.getElem?_eq_getElem (by have := (List.getElem?_eq_some_iff.1 hr).1; omega)⟩
    have upj : ∀ (i j : Nat) r' c', rows'[i]? = some r' → r'[j]? = some c' → ∃ r c, rows[i]? = some r ∧ r[j]? = some c := fun i j r' c' hr hc => by
      obtain ⟨r, hr'⟩ := up i r' hr
      exact ⟨r, _, hr', List.getElem?_eq_getElem (by have := h3 i r r' hr' hr; have := (List.getElem?_eq_some_iff.1 hc).1; omega)⟩
    cases h with
    | slcNil =>
      have : rows' = [] := List.eq_nil_of_length_eq_zero (by simpa using h2)
      subst this; exact .slcNil z
    | slcOdd _ a =>
      have : rows' = [] := List.eq_nil_of_length_eq_zero (by simpa using h2)
      subst this; exact .slcOdd z a
    | slc _ _ _ b off cap f k1 k2 k3 k4 k5 k6 k7 k8 =>
      refine .slc z rows' len b off cap f h1 (by omega) k3 (fun hne => k4 (fun e => hne (by subst e; exact List.eq_nil_of_length_eq_zero (by simpa using h2)))) (fun i r' hr => ?_) (fun i j r' c' hr hc => ?_) (fun i j r' c' hr hc => ?_) (fun i j r' c' hr hc => ?_)
      · obtain ⟨r, hr'⟩ := up i r' hr
        rw [← h3 i r r' hr' hr]; exact k5 i r hr'
      · obtain ⟨r, c, q1, q2⟩ := upj i j r' c' hr hc
        exact k6 i j r c q1 q2
      · obtain ⟨r, c, q1, q2⟩ := upj i j r' c' hr hc
        exact ih i j r r' c c' q1 hr q2 hc (k7 i j r c q1 q2)
      · obtain ⟨r, c, q1, q2⟩ := upj i j r' c' hr hc
        exact k8 i j r c q1 q2
def LeL (cs ds : List AV) : Prop := cs.length = ds.length ∧ ∀ (i : Nat) c d, cs[i]? = some c → ds[i]? = some d → Le c d
theorem LeL.nil : LeL [] [] := ⟨rfl, fun i c d h => by simp at h⟩
theorem LeL.cons {c d : AV} {cs ds : List AV} (h : Le c d) (k : LeL cs ds) : LeL (c :: cs) (d :: ds) := ⟨by simp [k.1], fun i x y hx hy => by
  cases i with
  | zero => cases hx; cases hy; exact h
  | succ i => exact k.2 i x y hx hy⟩
theorem LeL.refl (cs : List AV) : LeL cs cs := ⟨rfl, fun i c d h k => by rw [h] at k; cases k; exact .refl c⟩
theorem LeL.agg {cs ds : List AV} (h : LeL cs ds) : Le (.agg cs) (.agg ds) := .agg cs ds h.1 h.2
theorem Le.rows {α : Type} {z : Nat} {f g : α → List AV} {xs : List α} {more : List (List AV)} (h : ∀ x, x ∈ xs → LeL (f x) (g x)) : Le (.slc z (xs.map f ++ more) xs.length) (.slc z (xs.map g) xs.length) := by
  have key : ∀ (i : Nat) r r', (xs.map f ++ more)[i]? = some r → (xs.map g)[i]? = some r' → LeL r r' := fun i r r' h1 h2 => by
    have hi : i < xs.length := by simpa using (List.getElem?_eq_some_iff.1 h2).1
    rw [List.getElem?_append_left (by simpa using hi)] at h1
    rw [List.getElem?_map, List.getElem?_eq_getElem hi] at h1 h2
    cases h1; cases h2
    exact h _ (List.getElem_mem hi)
  exact .slc z _ _ _ (by simp) (by simp) (fun i r r' h1 h2 => (key i r r' h1 h2).1) (fun i j r r' c c' h1 h2 h3 h4 => (key i r r' h1 h2).2 j c c' h3 h4)
theorem RAs.le {cs ds : List AV} {xs : Array Value} (h : LeL cs ds) (k : RAs D nu o w cs xs) : RAs D nu o w ds xs := ⟨by rw [← h.1]; exact k.len, fun i d x hd hx => by
  have hi : i < cs.length := by have := (List.getElem?_eq_some_iff.1 hd).1; have := h.1; omega
  exact (k.at' i cs[i] x (List.getElem?_eq_getElem hi) hx).le (h.2 i _ d (List.getElem?_eq_getElem hi) hd)⟩
theorem Call1.le {f : FuncId} {args args' : List AV} {r : AV} (h : Call1 P f args r) (hw : wfL 0 args' = true) (hl : LeL args' args) : Call1 P f args' r := h.args hw (fun _ _ _ _ k => k.le hl)
end

end Go.Proofs.YtmdkgajjekbanaaDoor

namespace Go.Proofs.YtmdkgajjekbanaaDoor
open Go.RowKit

section
variable {P : Program}
end
end Go.Proofs.YtmdkgajjekbanaaDoor

namespace Go.Proofs.YtmdkgajjekbanaaDoor
open Go.RowKit

def sortRen : Go.Shelf.Ren := ⟨fun | 189 => 89 | 125 => 98 | 257 => 97 | 128 => 110 | 129 => 111 | 294 => 101 | 295 => 102 | 296 => 103 | 297 => 104 | 298 => 105 | 299 => 106 | 216 => 107 | 300 => 108 | 301 => 109 | 328 => 112 | 329 => 113 | 330 => 114 | 331 => 115 | 332 => 116 | 215 => 117 | 343 => 118 | n => n, fun | 28 => 37 | 3 => 3 | 46 => 100 | 0 => 0 | 51 => 68 | 53 => 134 | 4 => 4 | 183 => 126 | 182 => 125 | 131 => 131 | 5 => 5 | 9 => 9 | 218 => 135 | 222 => 139 | 228 => 141 | 229 => 142 | n => n, fun n => n⟩
def cmptRen : Go.Shelf.Ren := ⟨fun | 20 => 90 | n => n, fun | 22 => 37 | 3 => 3 | 4 => 4 | 0 => 0 | n => n, fun n => n⟩
end Go.Proofs.YtmdkgajjekbanaaDoor

namespace Go.Proofs.YtmdkgajjekbanaaDoor
open Go.RowKit

theorem wf_encNN (b : Nat) (l : List Nat) : wfR b (encN l) = true := wfR_map _ (fun _ => rfl) _
attribute [go_sem] wf_encNN
def growRen : Go.Shelf.Ren := ⟨fun | 4 => 88 | n => n, fun | 22 => 86 | 25 => 3 | 3 => 3 | 4 => 4 | 9 => 9 | 20 => 20 | 0 => 0 | n => n, fun n => n⟩
end Go.Proofs.YtmdkgajjekbanaaDoor

namespace Go.Proofs.YtmdkgajjekbanaaDoor
open Go.RowKit

def BehC (w : List ByteArray) (x : Ex) : Prop := ∀ fr : List Nat, fr.Pairwise (· < ·) → (∀ j, j ∈ fr → j ≤ w.length) → Call1 Tryd.prog 58 [.agg [strsA w], .agg (encE x), .slc 1 (encN fr) fr.length] (.slc 1 (encN (bh w (Lg x) fr)) (bh w (Lg x) fr).length)
inductive Fit9 : Ex → Prop
  | lab (s : ByteArray) : Fit9 (.mk 1 s [])
  | many (k : Int) (s : ByteArray) (l : List Ex) : (k = 2 ∨ k = 3) → l.length ≤ 900 → (∀ x ∈ l, Fit9 x) → Fit9 (.mk k s l)
  | one (k : Int) (s : ByteArray) (x : Ex) : (k = 4 ∨ k = 5 ∨ k = 6) → Fit9 x → Fit9 (.mk k s [x])
end Go.Proofs.YtmdkgajjekbanaaDoor
