/- The words that an expression takes; which positions begin, end, follow which; that the positions take just these words. Plain Lean. -/
import Derived.Test.YtfflpdekojlnmaaDoorLBase2
set_option linter.unusedSimpArgs false
set_option linter.unusedVariables false
namespace Go.Proofs.YtfflpdekojlnmaaDoor
open Go.RowKit

inductive StarL (L : List ByteArray → Prop) : List ByteArray → Prop
 | nil : StarL L []
 | cons (u v : List ByteArray) : u ≠ [] → L u → StarL L v → StarL L (u ++ v)
theorem StarL.append {L : List ByteArray → Prop} {u v : List ByteArray} (h : StarL L u) (k : StarL L v) : StarL L (u ++ v) := by
 induction h with
 | nil => exact k
 | cons a b h1 h2 _ ih => rw [List.append_assoc]; exact .cons a _ h1 h2 ih
theorem StarL.one {L : List ByteArray → Prop} {u : List ByteArray} (h : L u) : StarL L u := by
 by_cases hu : u = []
 ·subst hu; exact .nil
 ·have := StarL.cons u [] hu h .nil
  rwa [List.append_nil] at this
theorem StarL.inv {L : List ByteArray → Prop} {w : List ByteArray} (h : StarL L w) : w = [] ∨ ∃ u v, w = u ++ v ∧ u ≠ [] ∧ L u ∧ StarL L v := by
 cases h with
 | nil => exact .inl rfl
 | cons a b h1 h2 h3 => exact .inr ⟨a, b, rfl, h1, h2, h3⟩

mutual
def Lg : Ex → List ByteArray → Prop
 | .mk k s l, w => if k = 1 then w = [s] else if k = 2 then LgSeq l w else if k = 3 then LgAlt l w else if k = 4 then StarL (LgHd l) w
  else if k = 5 then ∃ u v, w = u ++ v ∧ LgHd l u ∧ StarL (LgHd l) v else if k = 6 then w = [] ∨ LgHd l w else False
def LgSeq : List Ex → List ByteArray → Prop
 | [], w => w = []
 | x :: xs, w => ∃ u v, w = u ++ v ∧ Lg x u ∧ LgSeq xs v
def LgAlt : List Ex → List ByteArray → Prop
 | [], _ => False
 | x :: xs, w => Lg x w ∨ LgAlt xs w
def LgHd : List Ex → List ByteArray → Prop
 | [], _ => False
 | x :: _, w => Lg x w
end
theorem LgAlt_iff : ∀ {l : List Ex} {w : List ByteArray}, LgAlt l w ↔ ∃ x ∈ l, Lg x w
 | [], w => by simp [LgAlt]
 | x :: xs, w => by simp [LgAlt, LgAlt_iff (l := xs)]
mutual
def exEmpty : Ex → Bool
 | .mk k _ l => if k = 4 then true else if k = 6 then true else if k = 3 then exEmAny l else if k = 2 then exEmAll l else if k = 5 then exEmAll l else false
def exEmAny : List Ex → Bool
 | [] => false
 | x :: xs => exEmpty x || exEmAny xs
def exEmAll : List Ex → Bool
 | [] => true
 | x :: xs => exEmpty x && exEmAll xs
end
theorem exEmAny_eq : ∀ l : List Ex, exEmAny l = l.any exEmpty
 | [] => rfl
 | x :: xs => by rw [exEmAny, exEmAny_eq xs]; rfl
theorem exEmAll_eq : ∀ l : List Ex, exEmAll l = l.all exEmpty
 | [] => rfl
 | x :: xs => by rw [exEmAll, exEmAll_eq xs]; rfl
theorem LgSeq_nil : ∀ {l : List Ex}, LgSeq l [] ↔ ∀ x ∈ l, Lg x []
 | [] => by simp [LgSeq]
 | x :: xs => by
  rw [LgSeq]
  constructor
  ·rintro ⟨u, v, h, h1, h2⟩
   obtain ⟨rfl, rfl⟩ := List.append_eq_nil_iff.1 h.symm
   intro y hy
   rcases List.mem_cons.1 hy with rfl | hy
   ·exact h1
   ·exact LgSeq_nil.1 h2 y hy
  ·intro h
   exact ⟨[], [], rfl, h x List.mem_cons_self, LgSeq_nil.2 (fun y hy => h y (List.mem_cons_of_mem _ hy))⟩
inductive Fit : Ex → Prop
 | lab (s : ByteArray) : Fit (.mk 1 s [])
 | many (k : Int) (s : ByteArray) (l : List Ex) : (k = 2 ∨ k = 3) → 1 < l.length → (∀ x ∈ l, Fit x) → Fit (.mk k s l)
 | one (k : Int) (s : ByteArray) (x : Ex) : (k = 4 ∨ k = 5 ∨ k = 6) → Fit x → Fit (.mk k s [x])
theorem exEmpty_iff {x : Ex} (h : Fit x) : exEmpty x = true ↔ Lg x [] := by
 induction h with
 | lab s => simp [exEmpty, Lg]
 | many k s l hk hl _ ih =>
  rcases hk with rfl | rfl
  ·simp only [exEmpty, Lg, exEmAll_eq, LgSeq_nil, Int.reduceEq, if_false, if_true]
   rw [List.all_eq_true]
   constructor
   ·intro h x hx; exact (ih x hx).1 (h x hx)
   ·intro h x hx; exact (ih x hx).2 (h x hx)
  ·simp only [exEmpty, Lg, exEmAny_eq, LgAlt_iff, List.any_eq_true, Int.reduceEq, if_false, if_true]
   constructor
   ·rintro ⟨x, hx, h⟩; exact ⟨x, hx, (ih x hx).1 h⟩
   ·rintro ⟨x, hx, h⟩; exact ⟨x, hx, (ih x hx).2 h⟩
 | one k s x hk _ ih =>
  rcases hk with rfl | rfl | rfl
  ·simp [exEmpty, Lg, StarL.nil]
  ·simp only [exEmpty, Lg, exEmAll, LgHd, Int.reduceEq, if_false, if_true, Bool.and_true]
   rw [ih]
   constructor
   ·intro h; exact ⟨[], [], rfl, h, .nil⟩
   ·rintro ⟨u, v, h, h1, _⟩
    obtain ⟨rfl, rfl⟩ := List.append_eq_nil_iff.1 h.symm
    exact h1
  ·simp [exEmpty, Lg]
/-! ### the word's parts -/
def bwn (w : List ByteArray) (i j : Nat) : List ByteArray := (w.drop i).take (j - i)
def Tk (L : List ByteArray → Prop) (w : List ByteArray) (i j : Nat) : Prop := i ≤ j ∧ j ≤ w.length ∧ L (bwn w i j)
/-! ### positions -/
mutual
def labE : Ex → List ByteArray
 | .mk k s l => if k = 1 then [s] else labEs l
def labEs : List Ex → List ByteArray
 | [] => []
 | x :: xs => labE x ++ labEs xs
end
mutual
def Fst : Ex → Nat → Nat → Prop
 | .mk k _ l, b, p => if k = 1 then p = b + 1 else if k = 2 then FstS l b p else FstA l b p
def FstS : List Ex → Nat → Nat → Prop
 | [], _, _ => False
 | x :: xs, b, p => Fst x b p ∨ (exEmpty x = true ∧ FstS xs (b + (labE x).length) p)
def FstA : List Ex → Nat → Nat → Prop
 | [], _, _ => False
 | x :: xs, b, p => Fst x b p ∨ FstA xs (b + (labE x).length) p
end
mutual
def Lst : Ex → Nat → Nat → Prop
 | .mk k _ l, b, p => if k = 1 then p = b + 1 else if k = 2 then LstS l b p else LstA l b p
def LstS : List Ex → Nat → Nat → Prop
 | [], _, _ => False
 | x :: xs, b, p => (exEmAll xs = true ∧ Lst x b p) ∨ LstS xs (b + (labE x).length) p
def LstA : List Ex → Nat → Nat → Prop
 | [], _, _ => False
 | x :: xs, b, p => Lst x b p ∨ LstA xs (b + (labE x).length) p
end
mutual
def Fol : Ex → Nat → Nat → Nat → Prop
 | .mk k _ l, b, p, q => if k = 1 then False else if k = 2 then FolS l b p q else FolA l b p q ∨ ((k = 4 ∨ k = 5) ∧ LstA l b p ∧ FstA l b q)
def FolS : List Ex → Nat → Nat → Nat → Prop
 | [], _, _, _ => False
 | x :: xs, b, p, q => Fol x b p q ∨ FolS xs (b + (labE x).length) p q ∨ (Lst x b p ∧ FstS xs (b + (labE x).length) q)
def FolA : List Ex → Nat → Nat → Nat → Prop
 | [], _, _, _ => False
 | x :: xs, b, p, q => Fol x b p q ∨ FolA xs (b + (labE x).length) p q
end
theorem FstS_A : ∀ {l : List Ex} {b p : Nat}, FstS l b p → FstA l b p
 | [], _, _, h => h
 | x :: xs, b, p, h => by
  rw [FstS] at h; rw [FstA]
  exact h.imp id (fun h => FstS_A h.2)
theorem LstS_A : ∀ {l : List Ex} {b p : Nat}, LstS l b p → LstA l b p
 | [], _, _, h => h
 | x :: xs, b, p, h => by
  rw [LstS] at h; rw [LstA]
  exact h.imp (fun h => h.2) LstS_A
theorem labE_of {k : Int} (h : k ≠ 1) (s : ByteArray) (l : List Ex) : labE (.mk k s l) = labEs l := by rw [labE, if_neg h]
theorem Fst_range (x : Ex) : ∀ {b p : Nat}, Fst x b p → b < p ∧ p ≤ b + (labE x).length := by
 induction x using Ex.ind with
 | h k s l ih =>
  intro b p h
  have key : ∀ (m : List Ex), (∀ x ∈ m, x ∈ l) → ∀ {b p : Nat}, FstA m b p → b < p ∧ p ≤ b + (labEs m).length := by
   intro m
   induction m with
   | nil => intro _ b p h; exact h.elim
   | cons x xs ihm =>
    intro hm b p h
    rw [FstA] at h
    rw [labEs, List.length_append]
    rcases h with h | h
    ·have := ih x (hm x List.mem_cons_self) h; omega
    ·have := ihm (fun y hy => hm y (List.mem_cons_of_mem _ hy)) h; omega
  rw [Fst] at h
  by_cases h1 : k = 1
  ·rw [if_pos h1] at h; rw [labE, if_pos h1]; simp; omega
  ·rw [if_neg h1] at h; rw [labE_of h1]
   split at h
   ·exact key l (fun _ h => h) (FstS_A h)
   ·exact key l (fun _ h => h) h
theorem FstA_range : ∀ {l : List Ex} {b p : Nat}, FstA l b p → b < p ∧ p ≤ b + (labEs l).length
 | [], b, p, h => h.elim
 | x :: xs, b, p, h => by
  rw [FstA] at h
  rw [labEs, List.length_append]
  rcases h with h | h
  ·have := Fst_range x h; omega
  ·have := FstA_range h; omega
theorem Lst_range (x : Ex) : ∀ {b p : Nat}, Lst x b p → b < p ∧ p ≤ b + (labE x).length := by
 induction x using Ex.ind with
 | h k s l ih =>
  intro b p h
  have key : ∀ (m : List Ex), (∀ x ∈ m, x ∈ l) → ∀ {b p : Nat}, LstA m b p → b < p ∧ p ≤ b + (labEs m).length := by
   intro m
   induction m with
   | nil => intro _ b p h; exact h.elim
   | cons x xs ihm =>
    intro hm b p h
    rw [LstA] at h
    rw [labEs, List.length_append]
    rcases h with h | h
    ·have := ih x (hm x List.mem_cons_self) h; omega
    ·have := ihm (fun y hy => hm y (List.mem_cons_of_mem _ hy)) h; omega
  rw [Lst] at h
  by_cases h1 : k = 1
  ·rw [if_pos h1] at h; rw [labE, if_pos h1]; simp; omega
  ·rw [if_neg h1] at h; rw [labE_of h1]
   split at h
   ·exact key l (fun _ h => h) (LstS_A h)
   ·exact key l (fun _ h => h) h
theorem LstA_range : ∀ {l : List Ex} {b p : Nat}, LstA l b p → b < p ∧ p ≤ b + (labEs l).length
 | [], b, p, h => h.elim
 | x :: xs, b, p, h => by
  rw [LstA] at h
  rw [labEs, List.length_append]
  rcases h with h | h
  ·have := Lst_range x h; omega
  ·have := LstA_range h; omega
theorem Fol_range (x : Ex) : ∀ {b p q : Nat}, Fol x b p q → (b < p ∧ p ≤ b + (labE x).length) ∧ b < q ∧ q ≤ b + (labE x).length := by
 induction x using Ex.ind with
 | h k s l ih =>
  intro b p q h
  have key : ∀ (m : List Ex), (∀ x ∈ m, x ∈ l) → ∀ {b p q : Nat}, FolA m b p q → (b < p ∧ p ≤ b + (labEs m).length) ∧ b < q ∧ q ≤ b + (labEs m).length := by
   intro m
   induction m with
   | nil => intro _ b p q h; exact h.elim
   | cons x xs ihm =>
    intro hm b p q h
    rw [FolA] at h
    rw [labEs, List.length_append]
    rcases h with h | h
    ·have := ih x (hm x List.mem_cons_self) h; omega
    ·have := ihm (fun y hy => hm y (List.mem_cons_of_mem _ hy)) h; omega
  have keyS : ∀ (m : List Ex), (∀ x ∈ m, x ∈ l) → ∀ {b p q : Nat}, FolS m b p q → (b < p ∧ p ≤ b + (labEs m).length) ∧ b < q ∧ q ≤ b + (labEs m).length := by
   intro m
   induction m with
   | nil => intro _ b p q h; exact h.elim
   | cons x xs ihm =>
    intro hm b p q h
    rw [FolS] at h
    rw [labEs, List.length_append]
    rcases h with h | h | ⟨h, h'⟩
    ·have := ih x (hm x List.mem_cons_self) h; omega
    ·have := ihm (fun y hy => hm y (List.mem_cons_of_mem _ hy)) h; omega
    ·have := Lst_range x h; have := FstA_range (FstS_A h'); omega
  rw [Fol] at h
  by_cases h1 : k = 1
  ·rw [if_pos h1] at h; exact h.elim
  ·rw [if_neg h1] at h; rw [labE_of h1]
   split at h
   ·exact keyS l (fun _ h => h) h
   ·rcases h with h | ⟨_, h, h'⟩
    ·exact key l (fun _ h => h) h
    ·exact ⟨LstA_range h, FstA_range h'⟩
theorem FolS_range : ∀ {l : List Ex} {b p q : Nat}, FolS l b p q → (b < p ∧ p ≤ b + (labEs l).length) ∧ b < q ∧ q ≤ b + (labEs l).length
 | [], b, p, q, h => h.elim
 | x :: xs, b, p, q, h => by
  rw [FolS] at h
  rw [labEs, List.length_append]
  rcases h with h | h | ⟨h, h'⟩
  ·have := Fol_range x h; omega
  ·have := FolS_range h; omega
  ·have := Lst_range x h; have := FstA_range (FstS_A h'); omega
theorem FolA_range : ∀ {l : List Ex} {b p q : Nat}, FolA l b p q → (b < p ∧ p ≤ b + (labEs l).length) ∧ b < q ∧ q ≤ b + (labEs l).length
 | [], b, p, q, h => h.elim
 | x :: xs, b, p, q, h => by
  rw [FolA] at h
  rw [labEs, List.length_append]
  rcases h with h | h
  ·have := Fol_range x h; omega
  ·have := FolA_range h; omega
/-! ### walks -/
def Chain (F : Nat → Nat → Prop) (g : Nat → ByteArray) : Nat → List ByteArray → Nat → Prop
 | p, [], q => p = q
 | p, a :: w, q => ∃ r, F p r ∧ g r = a ∧ Chain F g r w q
theorem Chain.imp {F G : Nat → Nat → Prop} {g : Nat → ByteArray} (h : ∀ p q, F p q → G p q) : ∀ {w : List ByteArray} {p q : Nat}, Chain F g p w q → Chain G g p w q
 | [], _, _, hc => hc
 | _ :: _, _, _, ⟨r, h1, h2, h3⟩ => ⟨r, h _ _ h1, h2, h3.imp h⟩
theorem Chain.app {F : Nat → Nat → Prop} {g : Nat → ByteArray} : ∀ {u v : List ByteArray} {p q : Nat}, Chain F g p (u ++ v) q ↔ ∃ r, Chain F g p u r ∧ Chain F g r v q
 | [], v, p, q => ⟨fun h => ⟨p, rfl, h⟩, fun ⟨_, h, k⟩ => by cases h; exact k⟩
 | a :: u, v, p, q => by
  constructor
  ·rintro ⟨r, h1, h2, h3⟩
   obtain ⟨s, h4, h5⟩ := Chain.app.1 h3
   exact ⟨s, ⟨r, h1, h2, h4⟩, h5⟩
  ·rintro ⟨s, ⟨r, h1, h2, h4⟩, h5⟩
   exact ⟨r, h1, h2, Chain.app.2 ⟨s, h4, h5⟩⟩
def PathOf (I : Nat → Prop) (F : Nat → Nat → Prop) (T : Nat → Prop) (g : Nat → ByteArray) : List ByteArray → Prop
 | [] => False
 | a :: w => ∃ p q, I p ∧ g p = a ∧ Chain F g p w q ∧ T q
theorem Chain.split {F G : Nat → Nat → Prop} {I T : Nat → Prop} {g : Nat → ByteArray} (hG : ∀ p q, G p q → F p q ∨ (T p ∧ I q)) : ∀ {w : List ByteArray} {p q : Nat}, Chain G g p w q →
  Chain F g p w q ∨ ∃ u a v r s, w = u ++ a :: v ∧ Chain F g p u r ∧ T r ∧ I s ∧ g s = a ∧ Chain G g s v q
 | [], _, _, h => .inl h
 | a :: w, p, q, ⟨r, h1, h2, h3⟩ => by
  rcases hG p r h1 with h | ⟨h, k⟩
  ·rcases Chain.split hG h3 with h4 | ⟨u, b, v, r', s, rfl, h4, h5, h6, h7, h8⟩
   ·exact .inl ⟨r, h, h2, h4⟩
   ·exact .inr ⟨a :: u, b, v, r', s, rfl, ⟨r, h, h2, h4⟩, h5, h6, h7, h8⟩
  ·exact .inr ⟨[], a, w, p, r, rfl, rfl, h, k, h2, h3⟩
theorem Chain.stay {F G : Nat → Nat → Prop} {S : Nat → Prop} {g : Nat → ByteArray} (hG : ∀ p q, S p → G p q → F p q ∧ S q) : ∀ {w : List ByteArray} {p q : Nat}, S p → Chain G g p w q → Chain F g p w q ∧ S q
 | [], _, _, hs, h => by cases h; exact ⟨rfl, hs⟩
 | a :: w, p, q, hs, ⟨r, h1, h2, h3⟩ => by
  obtain ⟨h4, h5⟩ := hG p r hs h1
  obtain ⟨h6, h7⟩ := Chain.stay hG h5 h3
  exact ⟨⟨r, h4, h2, h6⟩, h7⟩

def LabAt (ls : List ByteArray) (b : Nat) (g : Nat → ByteArray) : Prop := ∀ (i : Nat) s, ls[i]? = some s → g (b + 1 + i) = s
theorem LabAt.left {l m : List ByteArray} {b : Nat} {g : Nat → ByteArray} (h : LabAt (l ++ m) b g) : LabAt l b g := fun i s hi => h i s (by rw [List.getElem?_append_left (List.getElem?_eq_some_iff.1 hi).1]; exact hi)
theorem LabAt.right {l m : List ByteArray} {b : Nat} {g : Nat → ByteArray} (h : LabAt (l ++ m) b g) : LabAt m (b + l.length) g := fun i s hi => by
 have := h (l.length + i) s (by rw [List.getElem?_append_right (by omega), Nat.add_sub_cancel_left]; exact hi)
 rw [← this]; congr 1; omega

theorem Chain.split2 {F G : Nat → Nat → Prop} {I T S : Nat → Prop} {g : Nat → ByteArray} (hG : ∀ p q, S p → G p q → (F p q ∧ S q) ∨ (T p ∧ I q)) : ∀ {w : List ByteArray} {p q : Nat}, S p → Chain G g p w q →
  (Chain F g p w q ∧ S q) ∨ ∃ u a v r s, w = u ++ a :: v ∧ Chain F g p u r ∧ T r ∧ I s ∧ g s = a ∧ Chain G g s v q
 | [], _, _, hs, h => .inl ⟨h, by cases h; exact hs⟩
 | a :: w, p, q, hs, ⟨r, h1, h2, h3⟩ => by
  rcases hG p r hs h1 with ⟨h, k⟩ | ⟨h, k⟩
  ·rcases Chain.split2 hG k h3 with ⟨h4, h5⟩ | ⟨u, b, v, r', s, rfl, h4, h5, h6, h7, h8⟩
   ·exact .inl ⟨⟨r, h, h2, h4⟩, h5⟩
   ·exact .inr ⟨a :: u, b, v, r', s, rfl, ⟨r, h, h2, h4⟩, h5, h6, h7, h8⟩
  ·exact .inr ⟨[], a, w, p, r, rfl, rfl, h, k, h2, h3⟩
theorem path_seq {x : Ex} {xs : List Ex} {b : Nat} {g : Nat → ByteArray} {w : List ByteArray} (hw : w ≠ []) :
  PathOf (FstS (x :: xs) b) (FolS (x :: xs) b) (LstS (x :: xs) b) g w ↔
   (PathOf (Fst x b) (Fol x b) (Lst x b) g w ∧ exEmAll xs = true) ∨ (exEmpty x = true ∧ PathOf (FstS xs (b + (labE x).length)) (FolS xs (b + (labE x).length)) (LstS xs (b + (labE x).length)) g w) ∨
   ∃ u v, w = u ++ v ∧ PathOf (Fst x b) (Fol x b) (Lst x b) g u ∧ PathOf (FstS xs (b + (labE x).length)) (FolS xs (b + (labE x).length)) (LstS xs (b + (labE x).length)) g v := by
 obtain ⟨a, w, rfl⟩ := List.exists_cons_of_ne_nil hw
 generalize hb' : b + (labE x).length = b'
 have eS : ∀ p q, FolS (x :: xs) b p q ↔ Fol x b p q ∨ FolS xs b' p q ∨ (Lst x b p ∧ FstS xs b' q) := fun p q => by rw [FolS, hb']
 have eL : ∀ p, LstS (x :: xs) b p ↔ (exEmAll xs = true ∧ Lst x b p) ∨ LstS xs b' p := fun p => by rw [LstS, hb']
 have eF : ∀ p, FstS (x :: xs) b p ↔ Fst x b p ∨ (exEmpty x = true ∧ FstS xs b' p) := fun p => by rw [FstS, hb']
 have inX : ∀ {p}, Fst x b p → p ≤ b' := fun h => by have := Fst_range x h; omega
 have inXs : ∀ {p}, FstS xs b' p → b' < p := fun h => by have := FstA_range (FstS_A h); omega
 have stayR : ∀ {w p q}, b' < p → Chain (FolS (x :: xs) b) g p w q → Chain (FolS xs b') g p w q ∧ b' < q := fun hp h =>
  Chain.stay (S := fun p => b' < p) (fun p q hp h => by
   rcases (eS p q).1 h with h | h | ⟨h, _⟩
   ·have := Fol_range x h; omega
   ·exact ⟨h, by have := FolS_range h; omega⟩
   ·have := Lst_range x h; omega) hp h
 have endR : ∀ {q}, b' < q → LstS (x :: xs) b q → LstS xs b' q := fun hq h => by
  rcases (eL _).1 h with ⟨_, h⟩ | h
  ·have := Lst_range x h; omega
  ·exact h
 constructor
 ·rintro ⟨p, q, hp, hg, hc, hq⟩
  rcases (eF p).1 hp with hp | ⟨he, hp⟩
  ·rcases Chain.split2 (F := Fol x b) (I := FstS xs b') (T := Lst x b) (S := fun p => p ≤ b') (fun p q hs h => by
    rcases (eS p q).1 h with h | h | h
    ·exact .inl ⟨h, by have := Fol_range x h; omega⟩
    ·have := FolS_range h; omega
    ·exact .inr h) (inX hp) hc with ⟨h1, h2⟩ | ⟨u, c, v, r, s, rfl, h1, h2, h3, h4, h5⟩
   ·left
    rcases (eL q).1 hq with ⟨h3, h4⟩ | h
    ·exact ⟨⟨p, q, hp, hg, h1, h4⟩, h3⟩
    ·have := LstA_range (LstS_A h); omega
   ·right; right
    obtain ⟨h6, h7⟩ := stayR (inXs h3) h5
    exact ⟨a :: u, c :: v, rfl, ⟨p, r, hp, hg, h1, h2⟩, s, q, h3, h4, h6, endR h7 hq⟩
  ·obtain ⟨h1, h2⟩ := stayR (inXs hp) hc
   exact .inr (.inl ⟨he, p, q, hp, hg, h1, endR h2 hq⟩)
 ·rintro (⟨⟨p, q, hp, hg, hc, hq⟩, he⟩ | ⟨he, p, q, hp, hg, hc, hq⟩ | ⟨u, v, e, hu, hv⟩)
  ·exact ⟨p, q, (eF p).2 (.inl hp), hg, hc.imp (fun p q h => (eS p q).2 (.inl h)), (eL q).2 (.inl ⟨he, hq⟩)⟩
  ·exact ⟨p, q, (eF p).2 (.inr ⟨he, hp⟩), hg, hc.imp (fun p q h => (eS p q).2 (.inr (.inl h))), (eL q).2 (.inr hq)⟩
  ·cases u with
   | nil => exact hu.elim
   | cons a' u =>
    obtain ⟨rfl, rfl⟩ : a = a' ∧ w = u ++ v := by simpa using e
    cases v with
    | nil => exact hv.elim
    | cons c v =>
     obtain ⟨p, r, h1, h2, h3, h4⟩ := hu
     obtain ⟨s, q, k1, k2, k3, k4⟩ := hv
     refine ⟨p, q, (eF p).2 (.inl h1), h2, Chain.app.2 ⟨r, h3.imp (fun p q h => (eS p q).2 (.inl h)), s, (eS r s).2 (.inr (.inr ⟨h4, k1⟩)), k2, k3.imp (fun p q h => (eS p q).2 (.inr (.inl h)))⟩, (eL q).2 (.inr k4)⟩
theorem path_alt {x : Ex} {xs : List Ex} {b : Nat} {g : Nat → ByteArray} {w : List ByteArray} :
  PathOf (FstA (x :: xs) b) (FolA (x :: xs) b) (LstA (x :: xs) b) g w ↔
   PathOf (Fst x b) (Fol x b) (Lst x b) g w ∨ PathOf (FstA xs (b + (labE x).length)) (FolA xs (b + (labE x).length)) (LstA xs (b + (labE x).length)) g w := by
 cases w with
 | nil => simp [PathOf]
 | cons a w =>
  generalize hb' : b + (labE x).length = b'
  have eS : ∀ p q, FolA (x :: xs) b p q ↔ Fol x b p q ∨ FolA xs b' p q := fun p q => by rw [FolA, hb']
  have eL : ∀ p, LstA (x :: xs) b p ↔ Lst x b p ∨ LstA xs b' p := fun p => by rw [LstA, hb']
  have eF : ∀ p, FstA (x :: xs) b p ↔ Fst x b p ∨ FstA xs b' p := fun p => by rw [FstA, hb']
  constructor
  ·rintro ⟨p, q, hp, hg, hc, hq⟩
   rcases (eF p).1 hp with hp | hp
   ·obtain ⟨h1, h2⟩ := Chain.stay (F := Fol x b) (S := fun p => p ≤ b') (fun p q hs h => by
     rcases (eS p q).1 h with h | h
     ·exact ⟨h, by have := Fol_range x h; omega⟩
     ·have := FolA_range h; omega) (by have := Fst_range x hp; omega) hc
    rcases (eL q).1 hq with hq | hq
    ·exact .inl ⟨p, q, hp, hg, h1, hq⟩
    ·have := LstA_range hq; omega
   ·obtain ⟨h1, h2⟩ := Chain.stay (F := FolA xs b') (S := fun p => b' < p) (fun p q hs h => by
     rcases (eS p q).1 h with h | h
     ·have := Fol_range x h; omega
     ·exact ⟨h, by have := FolA_range h; omega⟩) (by have := FstA_range hp; omega) hc
    rcases (eL q).1 hq with hq | hq
    ·have := Lst_range x hq; omega
    ·exact .inr ⟨p, q, hp, hg, h1, hq⟩
  ·rintro (⟨p, q, hp, hg, hc, hq⟩ | ⟨p, q, hp, hg, hc, hq⟩)
   ·exact ⟨p, q, (eF p).2 (.inl hp), hg, hc.imp (fun p q h => (eS p q).2 (.inl h)), (eL q).2 (.inl hq)⟩
   ·exact ⟨p, q, (eF p).2 (.inr hp), hg, hc.imp (fun p q h => (eS p q).2 (.inr h)), (eL q).2 (.inr hq)⟩
theorem path_star {I T : Nat → Prop} {F : Nat → Nat → Prop} {g : Nat → ByteArray} {w : List ByteArray} (hw : w ≠ []) :
  PathOf I (fun p q => F p q ∨ (T p ∧ I q)) T g w ↔ StarL (PathOf I F T g) w := by
 constructor
 ·generalize hn : w.length = n
  induction n using Nat.strongRecOn generalizing w with
  | ind n ih =>
   intro h
   cases w with
   | nil => exact h.elim
   | cons a w =>
    obtain ⟨p, q, hp, hg, hc, hq⟩ := h
    rcases Chain.split (F := F) (I := I) (T := T) (fun _ _ h => h) hc with h1 | ⟨u, c, v, r, s, rfl, h1, h2, h3, h4, h5⟩
    ·exact .one ⟨p, q, hp, hg, h1, hq⟩
    ·have := ih (c :: v).length (by subst hn; simp; omega) (w := c :: v) (by simp) rfl ⟨s, q, h3, h4, h5, hq⟩
     rw [show a :: (u ++ c :: v) = (a :: u) ++ (c :: v) from rfl]
     exact .cons _ _ (by simp) ⟨p, r, hp, hg, h1, h2⟩ this
 ·intro h
  have key : w = [] ∨ PathOf I (fun p q => F p q ∨ (T p ∧ I q)) T g w := by
   clear hw
   induction h with
   | nil => exact .inl rfl
   | cons u v hu h1 _ ih =>
    right
    cases u with
    | nil => exact absurd rfl hu
    | cons a u =>
     obtain ⟨p, q, hp, hg, hc, hq⟩ := h1
     have hc' := hc.imp (G := fun p q => F p q ∨ (T p ∧ I q)) (fun p q h => .inl h)
     rcases ih with rfl | ih
     ·rw [List.append_nil]; exact ⟨p, q, hp, hg, hc', hq⟩
     ·cases v with
      | nil => exact ih.elim
      | cons c v =>
       obtain ⟨s, t, k1, k2, k3, k4⟩ := ih
       exact ⟨p, t, hp, hg, Chain.app.2 ⟨q, hc', s, .inr ⟨hq, k1⟩, k2, k3⟩, k4⟩
  exact key.resolve_left hw
theorem glu {x : Ex} (hx : Fit x) : ∀ {b : Nat} {g : Nat → ByteArray} {w : List ByteArray}, LabAt (labE x) b g → w ≠ [] → (Lg x w ↔ PathOf (Fst x b) (Fol x b) (Lst x b) g w) := by
 induction hx with
 | lab s =>
  intro b g w hl hw
  have hg : g (b + 1) = s := by have := hl 0 s (by simp [labE]); simpa using this
  cases w with
  | nil => exact absurd rfl hw
  | cons a w =>
   simp only [Lg, if_true, PathOf, Fst, Lst]
   constructor
   ·intro h
    simp only [List.cons.injEq] at h
    obtain ⟨rfl, rfl⟩ := h
    exact ⟨b + 1, b + 1, rfl, hg, rfl, rfl⟩
   ·rintro ⟨p, q, rfl, h1, h2, h3⟩
    cases w with
    | nil => rw [← h1, hg]
    | cons c w => obtain ⟨r, h4, _⟩ := h2; simp [Fol] at h4
 | many k s l hk hl hf ih =>
  intro b g w hla hw
  have h1 : k ≠ 1 := by omega
  rw [labE_of h1] at hla
  rcases hk with rfl | rfl
  ·have key : ∀ (m : List Ex), (∀ x ∈ m, x ∈ l) → ∀ {b : Nat} {w : List ByteArray}, LabAt (labEs m) b g → w ≠ [] → (LgSeq m w ↔ PathOf (FstS m b) (FolS m b) (LstS m b) g w) := by
    intro m
    induction m with
    | nil =>
     intro _ b w _ hw
     obtain ⟨a, w, rfl⟩ := List.exists_cons_of_ne_nil hw
     simp [LgSeq, PathOf, FstS]
    | cons x xs ihm =>
     intro hm b w hla hw
     rw [labEs] at hla
     have hx := hm x List.mem_cons_self
     have hxs : ∀ y ∈ xs, y ∈ l := fun y hy => hm y (List.mem_cons_of_mem _ hy)
     have eE := exEmpty_iff (hf x hx)
     have eA : exEmAll xs = true ↔ LgSeq xs [] := by
      rw [exEmAll_eq, List.all_eq_true, LgSeq_nil]
      exact ⟨fun h y hy => (exEmpty_iff (hf y (hxs y hy))).1 (h y hy), fun h y hy => (exEmpty_iff (hf y (hxs y hy))).2 (h y hy)⟩
     rw [path_seq hw, LgSeq, eE, eA]
     have I1 := fun {w : List ByteArray} (hw : w ≠ []) => ih x hx (b := b) (g := g) (w := w) hla.left hw
     have I2 := fun {w : List ByteArray} (hw : w ≠ []) => ihm hxs (b := b + (labE x).length) (w := w) hla.right hw
     constructor
     ·rintro ⟨u, v, rfl, h2, h3⟩
      by_cases hu : u = []
      ·subst hu
       exact .inr (.inl ⟨h2, (I2 hw).1 h3⟩)
      ·by_cases hv : v = []
       ·subst hv
        rw [List.append_nil] at hw ⊢
        exact .inl ⟨(I1 hu).1 h2, h3⟩
       ·exact .inr (.inr ⟨u, v, rfl, (I1 hu).1 h2, (I2 hv).1 h3⟩)
     ·rintro (⟨h2, h3⟩ | ⟨h2, h3⟩ | ⟨u, v, rfl, h2, h3⟩)
      ·exact ⟨w, [], by simp, (I1 hw).2 h2, h3⟩
      ·exact ⟨[], w, rfl, h2, (I2 hw).2 h3⟩
      ·refine ⟨u, v, rfl, (I1 (fun e => ?_)).2 h2, (I2 (fun e => ?_)).2 h3⟩
       ·subst e; exact h2
       ·subst e; exact h3
   simp only [Lg, Fst, Lst, Int.reduceEq, if_false, if_true]
   rw [key l (fun _ h => h) hla hw]
   have : ∀ {F G : Nat → Nat → Prop} {I T : Nat → Prop} {w}, (∀ p q, F p q ↔ G p q) → (PathOf I F T g w ↔ PathOf I G T g w) := fun {F G I T w} h => by
    have : F = G := funext fun p => funext fun q => propext (h p q)
    rw [this]
   exact this (fun p q => by simp [Fol])
  ·have key : ∀ (m : List Ex), (∀ x ∈ m, x ∈ l) → ∀ {b : Nat} {w : List ByteArray}, LabAt (labEs m) b g → w ≠ [] → (LgAlt m w ↔ PathOf (FstA m b) (FolA m b) (LstA m b) g w) := by
    intro m
    induction m with
    | nil =>
     intro _ b w _ hw
     obtain ⟨a, w, rfl⟩ := List.exists_cons_of_ne_nil hw
     simp [LgAlt, PathOf, FstA]
    | cons x xs ihm =>
     intro hm b w hla hw
     rw [labEs] at hla
     rw [path_alt, LgAlt, ih x (hm x List.mem_cons_self) hla.left hw, ihm (fun y hy => hm y (List.mem_cons_of_mem _ hy)) hla.right hw]
   simp only [Lg, Fst, Lst, Int.reduceEq, if_false, if_true]
   rw [key l (fun _ h => h) hla hw]
   have : ∀ {F G : Nat → Nat → Prop} {I T : Nat → Prop} {w}, (∀ p q, F p q ↔ G p q) → (PathOf I F T g w ↔ PathOf I G T g w) := fun {F G I T w} h => by
    have : F = G := funext fun p => funext fun q => propext (h p q)
    rw [this]
   exact this (fun p q => by simp [Fol])
 | one k s x hk hx ih =>
  intro b g w hla hw
  have h1 : k ≠ 1 := by omega
  have h2 : k ≠ 2 := by omega
  rw [labE_of h1, labEs, labEs, List.append_nil] at hla
  have I := fun {w : List ByteArray} (hw : w ≠ []) => ih (b := b) (g := g) (w := w) hla hw
  have eF : Fst (.mk k s [x]) b = Fst x b := funext fun p => by simp [Fst, h1, h2, FstA]
  have eL : Lst (.mk k s [x]) b = Lst x b := funext fun p => by simp [Lst, h1, h2, LstA]
  have star : ∀ {w : List ByteArray}, w ≠ [] → (StarL (LgHd [x]) w ↔ PathOf (Fst x b) (fun p q => Fol x b p q ∨ (Lst x b p ∧ Fst x b q)) (Lst x b) g w) := fun {w} hw => by
   rw [path_star hw]
   constructor
   ·intro h
    clear hw
    induction h with
    | nil => exact .nil
    | cons u v hu h1 _ ih => exact .cons u v hu ((I hu).1 h1) ih
   ·intro h
    clear hw
    induction h with
    | nil => exact .nil
    | cons u v hu h1 _ ih => exact .cons u v hu ((I hu).2 h1) ih
  rw [eF, eL]
  rcases hk with rfl | rfl | rfl
  ·have eFo : Fol (.mk 4 s [x]) b = (fun p q => Fol x b p q ∨ (Lst x b p ∧ Fst x b q)) := funext fun p => funext fun q => by simp [Fol, FolA, LstA, FstA]
   rw [eFo, ← star hw]
   simp [Lg]
  ·have eFo : Fol (.mk 5 s [x]) b = (fun p q => Fol x b p q ∨ (Lst x b p ∧ Fst x b q)) := funext fun p => funext fun q => by simp [Fol, FolA, LstA, FstA]
   rw [eFo, ← star hw]
   simp only [Lg, Int.reduceEq, if_false, if_true]
   constructor
   ·rintro ⟨u, v, rfl, h3, h4⟩
    exact (StarL.one h3).append h4
   ·intro h
    rcases h.inv with e | ⟨u, v, rfl, hu, h3, h4⟩
    ·exact absurd e hw
    ·exact ⟨u, v, rfl, h3, h4⟩
  ·have eFo : Fol (.mk 6 s [x]) b = Fol x b := funext fun p => funext fun q => by simp [Fol, FolA]
   rw [eFo, ← I hw]
   simp [Lg, LgHd, hw]
end Go.Proofs.YtfflpdekojlnmaaDoor
