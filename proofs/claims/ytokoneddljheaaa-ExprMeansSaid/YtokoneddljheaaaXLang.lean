/- The words that an expression takes; which positions begin, end, follow which; that the positions take just these words. Plain Lean. -/
import Derived.Test.YtokoneddljheaaaXBase
set_option linter.unusedSimpArgs false
set_option linter.unusedVariables false
namespace Go.Proofs.Ytokoneddljheaaa
open Go.RowKit

/-- any number of words, that are not empty, one behind the other -/
inductive StarL (L : List ByteArray → Prop) : List ByteArray → Prop
  | nil : StarL L []
  | cons (u v : List ByteArray) : u ≠ [] → L u → StarL L v → StarL L (u ++ v)
theorem StarL.append {L : List ByteArray → Prop} {u v : List ByteArray} (h : StarL L u) (k : StarL L v) : StarL L (u ++ v) := by
  induction h with
  | nil => exact k
  | cons a b h1 h2 _ ih => rw [List.append_assoc]; exact .cons a _ h1 h2 ih
theorem StarL.one {L : List ByteArray → Prop} {u : List ByteArray} (h : L u) : StarL L u := by
  by_cases hu : u = []
  · subst hu; exact .nil
  · have := StarL.cons u [] hu h .nil
    rwa [List.append_nil] at this
theorem StarL.imp {L M : List ByteArray → Prop} (hi : ∀ u, L u → M u) {u : List ByteArray} (h : StarL L u) : StarL M u := by
  induction h with
  | nil => exact .nil
  | cons a b h1 h2 _ ih => exact .cons a _ h1 (hi _ h2) ih
theorem StarL.inv {L : List ByteArray → Prop} {w : List ByteArray} (h : StarL L w) : w = [] ∨ ∃ u v, w = u ++ v ∧ u ≠ [] ∧ L u ∧ StarL L v := by
  cases h with
  | nil => exact .inl rfl
  | cons a b h1 h2 h3 => exact .inr ⟨a, b, rfl, h1, h2, h3⟩

mutual
/-- the words that an expression takes -/
def Lg : Ex → List ByteArray → Prop
  | .mk k s l, w => if k = 1 then w = [s] else if k = 2 then LgSeq l w else if k = 3 then LgAlt l w else if k = 4 then StarL (LgHd l) w
    else if k = 5 then ∃ u v, w = u ++ v ∧ LgHd l u ∧ StarL (LgHd l) v else if k = 6 then w = [] ∨ LgHd l w else False
def LgSeq : List Ex → List ByteArray → Prop
  | [], w => w = []
  | x :: xs, w => ∃ u v, w = u ++ v ∧ Lg x u ∧ LgSeq xs v
def LgAlt : List Ex → List ByteArray → Prop
  | [], _ => False
  | x :: xs, w => Lg x w ∨ LgAlt xs w
def LgHd : List Ex → List ByteArray → Prop
  | [], _ => False
  | x :: _, w => Lg x w
end
theorem LgAlt_iff : ∀ {l : List Ex} {w : List ByteArray}, LgAlt l w ↔ ∃ x ∈ l, Lg x w
  | [], w => by simp [LgAlt]
  | x :: xs, w => by simp [LgAlt, LgAlt_iff (l := xs)]
mutual
/-- whether the empty word is taken -/
def exEmpty : Ex → Bool
  | .mk k _ l => if k = 4 then true else if k = 6 then true else if k = 3 then exEmAny l else if k = 2 then exEmAll l else if k = 5 then exEmAll l else false
def exEmAny : List Ex → Bool
  | [] => false
  | x :: xs => exEmpty x || exEmAny xs
def exEmAll : List Ex → Bool
  | [] => true
  | x :: xs => exEmpty x && exEmAll xs
end
theorem exEmAny_eq : ∀ l : List Ex, exEmAny l = l.any exEmpty
  | [] => rfl
  | x :: xs => by rw [exEmAny, exEmAny_eq xs]; rfl
theorem exEmAll_eq : ∀ l : List Ex, exEmAll l = l.all exEmpty
  | [] => rfl
  | x :: xs => by rw [exEmAll, exEmAll_eq xs]; rfl
/-- an expression whose kinds have as many kids as they must -/
inductive Fit : Ex → Prop
  | lab (s : ByteArray) : Fit (.mk 1 s [])
  | many (k : Int) (s : ByteArray) (l : List Ex) : (k = 2 ∨ k = 3) → 1 < l.length → (∀ x ∈ l, Fit x) → Fit (.mk k s l)
  | one (k : Int) (s : ByteArray) (x : Ex) : (k = 4 ∨ k = 5 ∨ k = 6) → Fit x → Fit (.mk k s [x])
/-! ### the word's parts -/
/-- what lies between two places -/
def bwn (w : List ByteArray) (i j : Nat) : List ByteArray := (w.drop i).take (j - i)
theorem bwn_self (w : List ByteArray) (i : Nat) : bwn w i i = [] := by simp [bwn]
theorem bwn_app {w : List ByteArray} {i j k : Nat} (h1 : i ≤ j) (h2 : j ≤ k) : bwn w i j ++ bwn w j k = bwn w i k := by
  unfold bwn
  have : k - i = (j - i) + (k - j) := by omega
  rw [this, List.take_add, List.drop_drop, show i + (j - i) = j by omega]
theorem bwn_len {w : List ByteArray} {i j : Nat} (h : j ≤ w.length) : (bwn w i j).length = j - i := by
  simp [bwn]; omega
/-- parted, so are the places -/
theorem bwn_part {w u v : List ByteArray} {i k : Nat} (h1 : i ≤ k) (h2 : k ≤ w.length) (h : bwn w i k = u ++ v) : ∃ j, i ≤ j ∧ j ≤ k ∧ bwn w i j = u ∧ bwn w j k = v := by
  have hl := bwn_len (i := i) h2
  rw [h, List.length_append] at hl
  have e := bwn_app (w := w) (i := i) (j := i + u.length) (k := k) (by omega) (by omega)
  rw [h] at e
  have el : (bwn w i (i + u.length)).length = u.length := by rw [bwn_len (by omega)]; omega
  obtain ⟨e1, e2⟩ := List.append_inj e el
  exact ⟨i + u.length, by omega, by omega, e1, e2⟩
/-- from one place to another -/
def Tk (L : List ByteArray → Prop) (w : List ByteArray) (i j : Nat) : Prop := i ≤ j ∧ j ≤ w.length ∧ L (bwn w i j)
theorem Tk.seq {x : Ex} {xs : List Ex} {w : List ByteArray} {i k : Nat} : Tk (LgSeq (x :: xs)) w i k ↔ ∃ j, Tk (Lg x) w i j ∧ Tk (LgSeq xs) w j k := by
  constructor
  · rintro ⟨h1, h2, h3⟩
    rw [LgSeq] at h3
    obtain ⟨u, v, h, h4, h5⟩ := h3
    obtain ⟨j, k1, k2, rfl, rfl⟩ := bwn_part h1 h2 h
    exact ⟨j, ⟨k1, by omega, h4⟩, ⟨k2, h2, h5⟩⟩
  · rintro ⟨j, ⟨h1, h2, h3⟩, ⟨h4, h5, h6⟩⟩
    refine ⟨by omega, h5, ?_⟩
    rw [LgSeq]
    exact ⟨_, _, (bwn_app h1 h4).symm, h3, h6⟩
theorem Tk.seq_nil {w : List ByteArray} {i k : Nat} : Tk (LgSeq []) w i k ↔ i = k ∧ k ≤ w.length := by
  constructor
  · rintro ⟨h1, h2, h3⟩
    rw [LgSeq] at h3
    have := bwn_len (i := i) h2
    rw [h3] at this; simp at this
    exact ⟨by omega, h2⟩
  · rintro ⟨rfl, h⟩
    exact ⟨Nat.le_refl _, h, by rw [LgSeq, bwn_self]⟩
theorem LgSeq_app : ∀ {l m : List Ex} {w : List ByteArray}, LgSeq (l ++ m) w ↔ ∃ u v, w = u ++ v ∧ LgSeq l u ∧ LgSeq m v
  | [], m, w => by
    constructor
    · intro h; exact ⟨[], w, rfl, by rw [LgSeq], h⟩
    · rintro ⟨u, v, rfl, h, k⟩
      rw [LgSeq] at h; subst h; exact k
  | x :: l, m, w => by
    rw [List.cons_append, LgSeq]
    constructor
    · rintro ⟨u, v, rfl, h1, h2⟩
      obtain ⟨a, b, rfl, h3, h4⟩ := LgSeq_app.1 h2
      exact ⟨u ++ a, b, by simp, by rw [LgSeq]; exact ⟨u, a, rfl, h1, h3⟩, h4⟩
    · rintro ⟨u, v, rfl, h, k⟩
      rw [LgSeq] at h
      obtain ⟨a, b, rfl, h1, h2⟩ := h
      exact ⟨a, b ++ v, by simp, h1, LgSeq_app.2 ⟨b, v, rfl, h2, k⟩⟩
theorem Tk.seq_snoc {x : Ex} {xs : List Ex} {w : List ByteArray} {i k : Nat} : Tk (LgSeq (xs ++ [x])) w i k ↔ ∃ j, Tk (LgSeq xs) w i j ∧ Tk (Lg x) w j k := by
  constructor
  · rintro ⟨h1, h2, h3⟩
    obtain ⟨u, v, h, h4, h5⟩ := LgSeq_app.1 h3
    obtain ⟨j, k1, k2, rfl, rfl⟩ := bwn_part h1 h2 h
    rw [LgSeq] at h5
    obtain ⟨a, b, e, h6, h7⟩ := h5
    rw [LgSeq] at h7; subst h7
    rw [List.append_nil] at e; subst e
    exact ⟨j, ⟨k1, by omega, h4⟩, ⟨k2, h2, h6⟩⟩
  · rintro ⟨j, ⟨h1, h2, h3⟩, ⟨h4, h5, h6⟩⟩
    refine ⟨by omega, h5, LgSeq_app.2 ⟨_, _, (bwn_app h1 h4).symm, h3, ?_⟩⟩
    rw [LgSeq]; exact ⟨_, [], by simp, h6, by rw [LgSeq]⟩
theorem Tk.star_refl {L : List ByteArray → Prop} {w : List ByteArray} {i : Nat} (h : i ≤ w.length) : Tk (StarL L) w i i := ⟨Nat.le_refl _, h, by rw [bwn_self]; exact .nil⟩
theorem Tk.star_one {L : List ByteArray → Prop} {w : List ByteArray} {i j : Nat} (h : Tk L w i j) : Tk (StarL L) w i j := ⟨h.1, h.2.1, .one h.2.2⟩
theorem Tk.star_trans {L : List ByteArray → Prop} {w : List ByteArray} {i j k : Nat} (h : Tk (StarL L) w i j) (h' : Tk (StarL L) w j k) : Tk (StarL L) w i k :=
  ⟨Nat.le_trans h.1 h'.1, h'.2.1, by rw [← bwn_app h.1 h'.1]; exact h.2.2.append h'.2.2⟩
/-- a star goes on from a place, or stays there -/
theorem Tk.star_inv {L : List ByteArray → Prop} {w : List ByteArray} {i k : Nat} (h : Tk (StarL L) w i k) : i = k ∨ ∃ j, i < j ∧ Tk L w i j ∧ Tk (StarL L) w j k := by
  obtain ⟨h1, h2, h3⟩ := h
  rcases h3.inv with e | ⟨u, v, e, hu, h4, h5⟩
  · have := bwn_len (i := i) h2
    rw [e] at this; simp at this
    left; omega
  · right
    obtain ⟨j, k1, k2, rfl, rfl⟩ := bwn_part h1 h2 e
    refine ⟨j, ?_, ⟨k1, by omega, h4⟩, ⟨k2, h2, h5⟩⟩
    rcases Nat.lt_or_ge i j with q | q
    · exact q
    · obtain rfl : i = j := by omega
      rw [bwn_self] at hu; exact absurd rfl hu
/-- a set that holds i and what is taken from it holds all that a star takes -/
theorem Tk.star_closed {L : List ByteArray → Prop} {w : List ByteArray} (S : Nat → Prop) (hS : ∀ i j, S i → Tk L w i j → S j) {i k : Nat} (hi : S i) (h : Tk (StarL L) w i k) : S k := by
  generalize hn : k - i = n
  induction n using Nat.strongRecOn generalizing i with
  | ind n ih =>
    rcases h.star_inv with rfl | ⟨j, hj, h1, h2⟩
    · exact hi
    · have := h2.1
      exact ih (k - j) (by omega) (hS i j hi h1) h2 rfl
theorem Tk.word {L : List ByteArray → Prop} {w : List ByteArray} : Tk L w 0 w.length ↔ L w := by
  simp [Tk, bwn]
/-! ### positions -/
mutual
/-- the labels that stand in an expression, in their order -/
def labE : Ex → List ByteArray
  | .mk k s l => if k = 1 then [s] else labEs l
def labEs : List Ex → List ByteArray
  | [] => []
  | x :: xs => labE x ++ labEs xs
end
def nLab (x : Ex) : Nat := (labE x).length
mutual
/-- the positions with which words begin; b positions stand ahead -/
def Fst : Ex → Nat → Nat → Prop
  | .mk k _ l, b, p => if k = 1 then p = b + 1 else if k = 2 then FstS l b p else FstA l b p
def FstS : List Ex → Nat → Nat → Prop
  | [], _, _ => False
  | x :: xs, b, p => Fst x b p ∨ (exEmpty x = true ∧ FstS xs (b + (labE x).length) p)
def FstA : List Ex → Nat → Nat → Prop
  | [], _, _ => False
  | x :: xs, b, p => Fst x b p ∨ FstA xs (b + (labE x).length) p
end
mutual
/-- the positions with which words end -/
def Lst : Ex → Nat → Nat → Prop
  | .mk k _ l, b, p => if k = 1 then p = b + 1 else if k = 2 then LstS l b p else LstA l b p
def LstS : List Ex → Nat → Nat → Prop
  | [], _, _ => False
  | x :: xs, b, p => (exEmAll xs = true ∧ Lst x b p) ∨ LstS xs (b + (labE x).length) p
def LstA : List Ex → Nat → Nat → Prop
  | [], _, _ => False
  | x :: xs, b, p => Lst x b p ∨ LstA xs (b + (labE x).length) p
end
mutual
/-- which positions follow which -/
def Fol : Ex → Nat → Nat → Nat → Prop
  | .mk k _ l, b, p, q => if k = 1 then False else if k = 2 then FolS l b p q else FolA l b p q ∨ ((k = 4 ∨ k = 5) ∧ LstA l b p ∧ FstA l b q)
def FolS : List Ex → Nat → Nat → Nat → Prop
  | [], _, _, _ => False
  | x :: xs, b, p, q => Fol x b p q ∨ FolS xs (b + (labE x).length) p q ∨ (Lst x b p ∧ FstS xs (b + (labE x).length) q)
def FolA : List Ex → Nat → Nat → Nat → Prop
  | [], _, _, _ => False
  | x :: xs, b, p, q => Fol x b p q ∨ FolA xs (b + (labE x).length) p q
end
/-! ### walks -/
/-- a walk from position p on, over a word, to q -/
def Chain (F : Nat → Nat → Prop) (g : Nat → ByteArray) : Nat → List ByteArray → Nat → Prop
  | p, [], q => p = q
  | p, a :: w, q => ∃ r, F p r ∧ g r = a ∧ Chain F g r w q
theorem Chain.imp {F G : Nat → Nat → Prop} {g : Nat → ByteArray} (h : ∀ p q, F p q → G p q) : ∀ {w : List ByteArray} {p q : Nat}, Chain F g p w q → Chain G g p w q
  | [], _, _, hc => hc
  | _ :: _, _, _, ⟨r, h1, h2, h3⟩ => ⟨r, h _ _ h1, h2, h3.imp h⟩
/-- a walk over a word, from a first position to a last one -/
def PathOf (I : Nat → Prop) (F : Nat → Nat → Prop) (T : Nat → Prop) (g : Nat → ByteArray) : List ByteArray → Prop
  | [] => False
  | a :: w => ∃ p q, I p ∧ g p = a ∧ Chain F g p w q ∧ T q
/-- where a walk takes the first link -/
theorem Chain.split {F G : Nat → Nat → Prop} {I T : Nat → Prop} {g : Nat → ByteArray} (hG : ∀ p q, G p q → F p q ∨ (T p ∧ I q)) : ∀ {w : List ByteArray} {p q : Nat}, Chain G g p w q →
    Chain F g p w q ∨ ∃ u a v r s, w = u ++ a :: v ∧ Chain F g p u r ∧ T r ∧ I s ∧ g s = a ∧ Chain G g s v q
  | [], _, _, h => .inl h
  | a :: w, p, q, ⟨r, h1, h2, h3⟩ => by
    rcases hG p r h1 with h | ⟨h, k⟩
    · rcases Chain.split hG h3 with h4 | ⟨u, b, v, r', s, rfl, h4, h5, h6, h7, h8⟩
      · exact .inl ⟨r, h, h2, h4⟩
      · exact .inr ⟨a :: u, b, v, r', s, rfl, ⟨r, h, h2, h4⟩, h5, h6, h7, h8⟩
    · exact .inr ⟨[], a, w, p, r, rfl, rfl, h, k, h2, h3⟩
/-- a walk that can't leave a place -/
theorem Chain.stay {F G : Nat → Nat → Prop} {S : Nat → Prop} {g : Nat → ByteArray} (hG : ∀ p q, S p → G p q → F p q ∧ S q) : ∀ {w : List ByteArray} {p q : Nat}, S p → Chain G g p w q → Chain F g p w q ∧ S q
  | [], _, _, hs, h => by cases h; exact ⟨rfl, hs⟩
  | a :: w, p, q, hs, ⟨r, h1, h2, h3⟩ => by
    obtain ⟨h4, h5⟩ := hG p r hs h1
    obtain ⟨h6, h7⟩ := Chain.stay hG h5 h3
    exact ⟨⟨r, h4, h2, h6⟩, h7⟩
theorem Chain.range {F : Nat → Nat → Prop} {S : Nat → Prop} {g : Nat → ByteArray} (hF : ∀ p q, F p q → S q) {w : List ByteArray} {p q : Nat} (hs : S p) (h : Chain F g p w q) : S q :=
  (Chain.stay (F := F) (fun p q _ h => ⟨h, hF p q h⟩) hs h).2

/-- the labels lie behind b positions -/
def LabAt (ls : List ByteArray) (b : Nat) (g : Nat → ByteArray) : Prop := ∀ (i : Nat) s, ls[i]? = some s → g (b + 1 + i) = s
theorem LabAt.left {l m : List ByteArray} {b : Nat} {g : Nat → ByteArray} (h : LabAt (l ++ m) b g) : LabAt l b g := fun i s hi => h i s (by rw [List.getElem?_append_left (List.getElem?_eq_some_iff.1 hi).1]; exact hi)
theorem LabAt.right {l m : List ByteArray} {b : Nat} {g : Nat → ByteArray} (h : LabAt (l ++ m) b g) : LabAt m (b + l.length) g := fun i s hi => by
  have := h (l.length + i) s (by rw [List.getElem?_append_right (by omega), Nat.add_sub_cancel_left]; exact hi)
  rw [← this]; congr 1; omega

end Go.Proofs.Ytokoneddljheaaa
