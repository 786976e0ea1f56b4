/- The words that an expression takes; which positions begin, end, follow which; that the positions take just these words. Plain Lean. -/
import Derived.Test.YtmdkgajjekbanaaDoorTBase
import Derived.RangeFuncNested
import Derived.RangeFuncBound
import Derived.RangeFuncCalls
import Derived.RangeFuncLeaves
import Derived.Shelf.Abstract
import Derived.Shelf.RegionOpen
import Derived.OwnWalkIn
import Derived.TacticsInMore
import Derived.LoopNIn
import Derived.LoopIn
import Derived.Maps.AppendAt
import Derived.Test.YtmdkgajjekbanaaDoorTBase2
set_option linter.unusedSimpArgs false
set_option linter.unusedVariables false
namespace Go.Proofs.YtmdkgajjekbanaaDoor
open Go.RowKit

inductive StarL (L : List ByteArray → Prop) : List ByteArray → Prop
  | nil : StarL L []
  | cons (u v : List ByteArray) : u ≠ [] → L u → StarL L v → StarL L (u ++ v)
theorem StarL.append {L : List ByteArray → Prop} {u v : List ByteArray} (h : StarL L u) (k : StarL L v) : StarL L (u ++ v) := by
  induction h with
  | nil => exact k
  | cons a b h1 h2 _ ih => rw [List.append_assoc]; exact .cons a _ h1 h2 ih
theorem StarL.one {L : List ByteArray → Prop} {u : List ByteArray} (h : L u) : StarL L u := by
  by_cases hu : u = []
  · subst hu; exact .nil
  · have := StarL.cons u [] hu h .nil
    rwa [List.append_nil] at this

mutual
def Lg : Ex → List ByteArray → Prop
  | .mk k s l, w => if k = 1 then w = [s] else if k = 2 then LgSeq l w else if k = 3 then LgAlt l w else if k = 4 then StarL (LgHd l) w
    else if k = 5 then ∃ u v, w = u ++ v ∧ LgHd l u ∧ StarL (LgHd l) v else if k = 6 then w = [] ∨ LgHd l w else False
def LgSeq : List Ex → List ByteArray → Prop
  | [], w => w = []
  | x :: xs, w => ∃ u v, w = u ++ v ∧ Lg x u ∧ LgSeq xs v
def LgAlt : List Ex → List ByteArray → Prop
  | [], _ => False
  | x :: xs, w => Lg x w ∨ LgAlt xs w
def LgHd : List Ex → List ByteArray → Prop
  | [], _ => False
  | x :: _, w => Lg x w
end
theorem LgAlt_iff : ∀ {l : List Ex} {w : List ByteArray}, LgAlt l w ↔ ∃ x ∈ l, Lg x w
  | [], w => by simp [LgAlt]
  | x :: xs, w => by simp [LgAlt, LgAlt_iff (l := xs)]
mutual
def exEmpty : Ex → Bool
  | .mk k _ l => if k = 4 then true else if k = 6 then true else if k = 3 then exEmAny l else if k = 2 then exEmAll l else if k = 5 then exEmAll l else false
def exEmAny : List Ex → Bool
  | [] => false
  | x :: xs => exEmpty x || exEmAny xs
def exEmAll : List Ex → Bool
  | [] => true
  | x :: xs => exEmpty x && exEmAll xs
end
theorem exEmAny_eq : ∀ l : List Ex, exEmAny l = l.any exEmpty
  | [] => rfl
  | x :: xs => by rw [exEmAny, exEmAny_eq xs]; rfl
theorem exEmAll_eq : ∀ l : List Ex, exEmAll l = l.all exEmpty
  | [] => rfl
  | x :: xs => by rw [exEmAll, exEmAll_eq xs]; rfl
theorem LgSeq_nil : ∀ {l : List Ex}, LgSeq l [] ↔ ∀ x ∈ l, Lg x []
  | [] => by simp [LgSeq]
  | x :: xs => by
    rw [LgSeq]
    constructor
    · rintro ⟨u, v, h, h1, h2⟩
      obtain ⟨rfl, rfl⟩ := List.append_eq_nil_iff.1 h.symm
      intro y hy
      rcases List.mem_cons.1 hy with rfl | hy
      · exact h1
      · exact LgSeq_nil.1 h2 y hy
    · intro h
      exact ⟨[], [], rfl, h x List.mem_cons_self, LgSeq_nil.2 (fun y hy => h y (List.mem_cons_of_mem _ hy))⟩
inductive Fit : Ex → Prop
  | lab (s : ByteArray) : Fit (.mk 1 s [])
  | many (k : Int) (s : ByteArray) (l : List Ex) : (k = 2 ∨ k = 3) → 1 < l.length → (∀ x ∈ l, Fit x) → Fit (.mk k s l)
  | one (k : Int) (s : ByteArray) (x : Ex) : (k = 4 ∨ k = 5 ∨ k = 6) → Fit x → Fit (.mk k s [x])
theorem exEmpty_iff {x : Ex} (h : Fit x) : exEmpty x = true ↔ Lg x [] := by
  induction h with
  | lab s => simp [exEmpty, Lg]
  | many k s l hk hl _ ih =>
    rcases hk with rfl | rfl
    · simp only [exEmpty, Lg, exEmAll_eq, LgSeq_nil, Int.reduceEq, if_false, if_true]
      rw [List.all_eq_true]
      constructor
      · intro h x hx; exact (ih x hx).1 (h x hx)
      · intro h x hx; exact (ih x hx).2 (h x hx)
    · simp only [exEmpty, Lg, exEmAny_eq, LgAlt_iff, List.any_eq_true, Int.reduceEq, if_false, if_true]
      constructor
      · rintro ⟨x, hx, h⟩; exact ⟨x, hx, (ih x hx).1 h⟩
      · rintro ⟨x, hx, h⟩; exact ⟨x, hx, (ih x hx).2 h⟩
  | one k s x hk _ ih =>
    rcases hk with rfl | rfl | rfl
    · simp [exEmpty, Lg, StarL.nil]
    · simp only [exEmpty, Lg, exEmAll, LgHd, Int.reduceEq, if_false, if_true, Bool.and_true]
      rw [ih]
      constructor
      · intro h; exact ⟨[], [], rfl, h, .nil⟩
      · rintro ⟨u, v, h, h1, _⟩
        obtain ⟨rfl, rfl⟩ := List.append_eq_nil_iff.1 h.symm
        exact h1
    · simp [exEmpty, Lg]
/-! ### the word's parts -/
def bwn (w : List ByteArray) (i j : Nat) : List ByteArray := (w.drop i).take (j - i)
theorem bwn_self (w : List ByteArray) (i : Nat) : bwn w i i = [] := by simp [bwn]
theorem bwn_app {w : List ByteArray} {i j k : Nat} (h1 : i ≤ j) (h2 : j ≤ k) : bwn w i j ++ bwn w j k = bwn w i k := by
  unfold bwn
  have : k - i = (j - i) + (k - j) := by omega
  rw [this, List.take_add, List.drop_drop, show i + (j - i) = j by omega]
theorem bwn_len {w : List ByteArray} {i j : Nat} (h : j ≤ w.length) : (bwn w i j).length = j - i := by
  simp [bwn]; omega
theorem bwn_part {w u v : List ByteArray} {i k : Nat} (h1 : i ≤ k) (h2 : k ≤ w.length) (h : bwn w i k = u ++ v) : ∃ j, i ≤ j ∧ j ≤ k ∧ bwn w i j = u ∧ bwn w j k = v := by
  have hl := bwn_len (i := i) h2
  rw [h, List.length_append] at hl
  have e := bwn_app (w := w) (i := i) (j := i + u.length) (k := k) (by omega) (by omega)
  rw [h] at e
  have el : (bwn w i (i + u.length)).length = u.length := by rw [bwn_len (by omega)]; omega
  obtain ⟨e1, e2⟩ := List.append_inj e el
  exact ⟨i + u.length, by omega, by omega, e1, e2⟩
def Tk (L : List ByteArray → Prop) (w : List ByteArray) (i j : Nat) : Prop := i ≤ j ∧ j ≤ w.length ∧ L (bwn w i j)
theorem LgSeq_app : ∀ {l m : List Ex} {w : List ByteArray}, LgSeq (l ++ m) w ↔ ∃ u v, w = u ++ v ∧ LgSeq l u ∧ LgSeq m v
  | [], m, w => by
    constructor
    · intro h; exact ⟨[], w, rfl, by rw [LgSeq], h⟩
    · rintro ⟨u, v, rfl, h, k⟩
      rw [LgSeq] at h; subst h; exact k
  | x :: l, m, w => by
    rw [List.cons_append, LgSeq]
    constructor
    · rintro ⟨u, v, rfl, h1, h2⟩
      obtain ⟨a, b, rfl, h3, h4⟩ := LgSeq_app.1 h2
      exact ⟨u ++ a, b, by simp, by rw [LgSeq]; exact ⟨u, a, rfl, h1, h3⟩, h4⟩
    · rintro ⟨u, v, rfl, h, k⟩
      rw [LgSeq] at h
      obtain ⟨a, b, rfl, h1, h2⟩ := h
      exact ⟨a, b ++ v, by simp, h1, LgSeq_app.2 ⟨b, v, rfl, h2, k⟩⟩
theorem Tk.word {L : List ByteArray → Prop} {w : List ByteArray} : Tk L w 0 w.length ↔ L w := by
  simp [Tk, bwn]
/-! ### positions -/
mutual
def labE : Ex → List ByteArray
  | .mk k s l => if k = 1 then [s] else labEs l
def labEs : List Ex → List ByteArray
  | [] => []
  | x :: xs => labE x ++ labEs xs
end
mutual
def Fst : Ex → Nat → Nat → Prop
  | .mk k _ l, b, p => if k = 1 then p = b + 1 else if k = 2 then FstS l b p else FstA l b p
def FstS : List Ex → Nat → Nat → Prop
  | [], _, _ => False
  | x :: xs, b, p => Fst x b p ∨ (exEmpty x = true ∧ FstS xs (b + (labE x).length) p)
def FstA : List Ex → Nat → Nat → Prop
  | [], _, _ => False
  | x :: xs, b, p => Fst x b p ∨ FstA xs (b + (labE x).length) p
end
mutual
def Lst : Ex → Nat → Nat → Prop
  | .mk k _ l, b, p => if k = 1 then p = b + 1 else if k = 2 then LstS l b p else LstA l b p
def LstS : List Ex → Nat → Nat → Prop
  | [], _, _ => False
  | x :: xs, b, p => (exEmAll xs = true ∧ Lst x b p) ∨ LstS xs (b + (labE x).length) p
def LstA : List Ex → Nat → Nat → Prop
  | [], _, _ => False
  | x :: xs, b, p => Lst x b p ∨ LstA xs (b + (labE x).length) p
end
mutual
def Fol : Ex → Nat → Nat → Nat → Prop
  | .mk k _ l, b, p, q => if k = 1 then False else if k = 2 then FolS l b p q else FolA l b p q ∨ ((k = 4 ∨ k = 5) ∧ LstA l b p ∧ FstA l b q)
def FolS : List Ex → Nat → Nat → Nat → Prop
  | [], _, _, _ => False
  | x :: xs, b, p, q => Fol x b p q ∨ FolS xs (b + (labE x).length) p q ∨ (Lst x b p ∧ FstS xs (b + (labE x).length) q)
def FolA : List Ex → Nat → Nat → Nat → Prop
  | [], _, _, _ => False
  | x :: xs, b, p, q => Fol x b p q ∨ FolA xs (b + (labE x).length) p q
end
theorem FstS_A : ∀ {l : List Ex} {b p : Nat}, FstS l b p → FstA l b p
  | [], _, _, h => h
  | x :: xs, b, p, h => by
    rw [FstS] at h; rw [FstA]
    exact h.imp id (fun h => FstS_A h.2)
theorem LstS_A : ∀ {l : List Ex} {b p : Nat}, LstS l b p → LstA l b p
  | [], _, _, h => h
  | x :: xs, b, p, h => by
    rw [LstS] at h; rw [LstA]
    exact h.imp (fun h => h.2) LstS_A
theorem labE_of {k : Int} (h : k ≠ 1) (s : ByteArray) (l : List Ex) : labE (.mk k s l) = labEs l := by rw [labE, if_neg h]
theorem Fst_range (x : Ex) : ∀ {b p : Nat}, Fst x b p → b < p ∧ p ≤ b + (labE x).length := by
  induction x using Ex.ind with
  | h k s l ih =>
    intro b p h
    have key : ∀ (m : List Ex), (∀ x ∈ m, x ∈ l) → ∀ {b p : Nat}, FstA m b p → b < p ∧ p ≤ b + (labEs m).length := by
      intro m
      induction m with
      | nil => intro _ b p h; exact h.elim
      | cons x xs ihm =>
        intro hm b p h
        rw [FstA] at h
        rw [labEs, List.length_append]
        rcases h with h | h
        · have := ih x (hm x List.mem_cons_self) h; omega
        · have := ihm (fun y hy => hm y (List.mem_cons_of_mem _ hy)) h; omega
    rw [Fst] at h
    by_cases h1 : k = 1
    · rw [if_pos h1] at h; rw [labE, if_pos h1]; simp; omega
    · rw [if_neg h1] at h; rw [labE_of h1]
      split at h
      · exact key l (fun _ h => h) (FstS_A h)
      · exact key l (fun _ h => h) h
theorem FstA_range : ∀ {l : List Ex} {b p : Nat}, FstA l b p → b < p ∧ p ≤ b + (labEs l).length
  | [], b, p, h => h.elim
  | x :: xs, b, p, h => by
    rw [FstA] at h
    rw [labEs, List.length_append]
    rcases h with h | h
    · have := Fst_range x h; omega
    · have := FstA_range h; omega
theorem Lst_range (x : Ex) : ∀ {b p : Nat}, Lst x b p → b < p ∧ p ≤ b + (labE x).length := by
  induction x using Ex.ind with
  | h k s l ih =>
    intro b p h
    have key : ∀ (m : List Ex), (∀ x ∈ m, x ∈ l) → ∀ {b p : Nat}, LstA m b p → b < p ∧ p ≤ b + (labEs m).length := by
      intro m
      induction m with
      | nil => intro _ b p h; exact h.elim
      | cons x xs ihm =>
        intro hm b p h
        rw [LstA] at h
        rw [labEs, List.length_append]
        rcases h with h | h
        · have := ih x (hm x List.mem_cons_self) h; omega
        · have := ihm (fun y hy => hm y (List.mem_cons_of_mem _ hy)) h; omega
    rw [Lst] at h
    by_cases h1 : k = 1
    · rw [if_pos h1] at h; rw [labE, if_pos h1]; simp; omega
    · rw [if_neg h1] at h; rw [labE_of h1]
      split at h
      · exact key l (fun _ h => h) (LstS_A h)
      · exact key l (fun _ h => h) h
theorem LstA_range : ∀ {l : List Ex} {b p : Nat}, LstA l b p → b < p ∧ p ≤ b + (labEs l).length
  | [], b, p, h => h.elim
  | x :: xs, b, p, h => by
    rw [LstA] at h
    rw [labEs, List.length_append]
    rcases h with h | h
    · have := Lst_range x h; omega
    · have := LstA_range h; omega
theorem Fol_range (x : Ex) : ∀ {b p q : Nat}, Fol x b p q → (b < p ∧ p ≤ b + (labE x).length) ∧ b < q ∧ q ≤ b + (labE x).length := by
  induction x using Ex.ind with
  | h k s l ih =>
    intro b p q h
    have key : ∀ (m : List Ex), (∀ x ∈ m, x ∈ l) → ∀ {b p q : Nat}, FolA m b p q → (b < p ∧ p ≤ b + (labEs m).length) ∧ b < q ∧ q ≤ b + (labEs m).length := by
      intro m
      induction m with
      | nil => intro _ b p q h; exact h.elim
      | cons x xs ihm =>
        intro hm b p q h
        rw [FolA] at h
        rw [labEs, List.length_append]
        rcases h with h | h
        · have := ih x (hm x List.mem_cons_self) h; omega
        · have := ihm (fun y hy => hm y (List.mem_cons_of_mem _ hy)) h; omega
    have keyS : ∀ (m : List Ex), (∀ x ∈ m, x ∈ l) → ∀ {b p q : Nat}, FolS m b p q → (b < p ∧ p ≤ b + (labEs m).length) ∧ b < q ∧ q ≤ b + (labEs m).length := by
      intro m
      induction m with
      | nil => intro _ b p q h; exact h.elim
      | cons x xs ihm =>
        intro hm b p q h
        rw [FolS] at h
        rw [labEs, List.length_append]
        rcases h with h | h | ⟨h, h'⟩
        · have := ih x (hm x List.mem_cons_self) h; omega
        · have := ihm (fun y hy => hm y (List.mem_cons_of_mem _ hy)) h; omega
        · have := Lst_range x h; have := FstA_range (FstS_A h'); omega
    rw [Fol] at h
    by_cases h1 : k = 1
    · rw [if_pos h1] at h; exact h.elim
    · rw [if_neg h1] at h; rw [labE_of h1]
      split at h
      · exact keyS l (fun _ h => h) h
      · rcases h with h | ⟨_, h, h'⟩
        · exact key l (fun _ h => h) h
        · exact ⟨LstA_range h, FstA_range h'⟩
/-! ### walks -/
def Chain (F : Nat → Nat → Prop) (g : Nat → ByteArray) : Nat → List ByteArray → Nat → Prop
  | p, [], q => p = q
  | p, a :: w, q => ∃ r, F p r ∧ g r = a ∧ Chain F g r w q
def PathOf (I : Nat → Prop) (F : Nat → Nat → Prop) (T : Nat → Prop) (g : Nat → ByteArray) : List ByteArray → Prop
  | [] => False
  | a :: w => ∃ p q, I p ∧ g p = a ∧ Chain F g p w q ∧ T q

def LabAt (ls : List ByteArray) (b : Nat) (g : Nat → ByteArray) : Prop := ∀ (i : Nat) s, ls[i]? = some s → g (b + 1 + i) = s

end Go.Proofs.YtmdkgajjekbanaaDoor

namespace Go.Proofs.YtmdkgajjekbanaaDoor
open Go.RowKit Go.Shelf

theorem room_of_none {F : Fence} (hd : F.depth = none) (k : Nat) : F.room k := fun d h => by rw [hd] at h; cases h
theorem roundIn_anyDepth {F : Fence} (hd : F.depth = none) {m m' : Nat} {P : Program} {l : Nat} {f : FuncId} {tmps : Array Value} {assign body : Code} {w : World} {R : Ending → World → Prop}
    (h : RoundIn F m P l f tmps assign body w R) : RoundIn F m' P l f tmps assign body w R := ⟨h.1, fun c cs _ => h.2 c cs (room_of_none hd _)⟩
theorem yieldAt_anyDepth {F : Fence} (hd : F.depth = none) {m : Nat} (m' : Nat) {P : Program} {l : Nat} {args : Array Value} {W : World} {R : Ending → World → Prop} (h : YieldAt F m P l args W R) : YieldAt F m' P l args W R := by
  obtain ⟨fn, tmps, assign, body, hy, hR⟩ := h
  exact ⟨fn, tmps, assign, body, hy, roundIn_anyDepth hd hR⟩

def keepB (lo hi : Nat) (e : TypeId) (k : Nat) : Obj → Prop
  | .cells _ T _ => k < lo ∨ (hi ≤ k ∧ T ≠ e)
  | o => o.isWalk = true ∧ (k < lo ∨ hi ≤ k)

structure Kept (lo hi : Nat) (e : TypeId) (W W' : World) : Prop where
  size : W.heap.size ≤ W'.heap.size
  same : ∀ (k : Nat) (o : Obj), W.heap[k]? = some o → keepB lo hi e k o → W'.heap[k]? = some o

theorem Kept.trans {lo hi : Nat} {e : TypeId} {A B C : World} (h : Kept lo hi e A B) (k : Kept lo hi e B C) : Kept lo hi e A C :=
  ⟨Nat.le_trans h.size k.size, fun i o hx ho => k.same i o (h.same i o hx ho) ho⟩
theorem Kept.below {lo hi : Nat} {e : TypeId} {W W' : World} (h : Below W.heap.size W W') : Kept lo hi e W W' :=
  ⟨h.size, fun k _ hk _ => (h.block k (Array.getElem?_eq_some_iff.1 hk).1).trans hk⟩
theorem Kept.alloc {lo hi : Nat} {e : TypeId} (W : World) (o : Obj) : Kept lo hi e W (W.alloc o) := .below ((Below.refl _ _).alloc (Nat.le_refl _) o)
theorem keepB_out {lo hi : Nat} {e : TypeId} {k : Nat} {o : Obj} (h : keepB lo hi e k o) : k < lo ∨ hi ≤ k := by
  cases o <;> simp only [keepB] at h <;> omega
theorem Kept.setCell {lo hi : Nat} {e : TypeId} (W : World) {b o : Nat} (h1 : lo ≤ b) (h2 : b < hi) (v : Value) : Kept lo hi e W (W.setCell ⟨b, o, none⟩ v) :=
  ⟨by show _ ≤ (W.heap.modify _ _).size; rw [Array.size_modify]; exact Nat.le_refl _, fun k _ hx hk => (Below.heap_setCell W _ v k (fun e => by have e2 : k = b := e; have := keepB_out hk; omega)).trans hx⟩
theorem Kept.putObj {lo hi : Nat} {e : TypeId} (W : World) (l : Nat) (o o' : Obj) (h : W.heap[l]? = some o) (hc : o.isCells = false) (hw : o.isWalk = false) : Kept lo hi e W (W.putObj l o') :=
  ⟨by simp, fun k o'' hx ho => (World.putObj_heap_other (fun e => by
    subst e; rw [h] at hx; cases hx
    cases o <;> simp_all [keepB, Obj.isCells])).trans hx⟩

theorem Kept.cells {lo hi : Nat} {e : TypeId} {w0 W W' : World} (h : Kept lo hi e W W') (hc : Cells w0 W) (hlo : w0.heap.size ≤ lo) : Cells w0 W' := fun b o v hv => by
  have hb := lt_of_cell hv
  have h1 := hc b o v hv
  unfold World.cell? at h1 ⊢
  cases hw : W.heap[b]? with
  | none => simp [hw] at h1
  | some ob =>
    cases ob with
    | cells C T fz =>
      have := h.same b _ hw (.inl (by omega))
      simp only [this]
      simpa [hw] using h1
    | _ => simp [hw] at h1
theorem Kept.box {lo hi : Nat} {e : TypeId} {W W' : World} (h : Kept lo hi e W W') {k : Nat} {C : Array Value} {T : TypeId} {fz : Nat × Nat} (hk : hi ≤ k) (hT : T ≠ e) (hx : W.heap[k]? = some (.cells C T fz)) : W'.heap[k]? = some (.cells C T fz) :=
  h.same k _ hx (.inr ⟨hk, hT⟩)

def YOk {α : Type} (J Jx : List α → World → Prop) (Kp : World → World → Prop) (pre : List α) (x : α) (W : World) (e : Ending) (W' : World) : Prop :=
  (e = .returned (.bool true) ∧ J (pre ++ [x]) W' ∧ Kp W W') ∨ (e = .returned (.bool false) ∧ Jx (pre ++ [x]) W')

theorem cell_of_block {w : World} {k : Nat} {C : Array Value} {T : TypeId} {fz : Nat × Nat} (h : w.heap[k]? = some (.cells C T fz)) (o : Nat) : w.cell? ⟨k, o, none⟩ = C[o]? := by simp [World.cell?, h]
theorem frozen_of_block {w : World} {k : Nat} {C : Array Value} {T : TypeId} (h : w.heap[k]? = some (.cells C T (0, 0))) (o : Nat) : w.frozen? ⟨k, o, none⟩ = false := by simp [World.frozen?, h]

theorem block_alloc {w : World} {k : Nat} {ob : Obj} (h : w.heap[k]? = some ob) (o : Obj) : (w.alloc o).heap[k]? = some ob := (Below.heap_alloc w o k (Array.getElem?_eq_some_iff.1 h).1).trans h
theorem block_set_other {w : World} {k : Nat} {ob : Obj} (h : w.heap[k]? = some ob) {b o : Nat} (v : Value) (hne : k ≠ b) : (w.setCell ⟨b, o, none⟩ v).heap[k]? = some ob := (Below.heap_setCell w _ v k hne).trans h

theorem block_set {w : World} {k : Nat} {v : Value} {T : TypeId} {fz : Nat × Nat} (h : w.heap[k]? = some (.cells #[v] T fz)) (u : Value) : (w.setCell ⟨k, 0, none⟩ u).heap[k]? = some (.cells #[u] T fz) := by
  simp [World.setCell, Array.getElem?_modify, h]
theorem block_put_other {w : World} {k D : Nat} {ob : Obj} (h : w.heap[k]? = some ob) (o : Obj) (hne : k ≠ D) : (w.putObj D o).heap[k]? = some ob := (World.putObj_heap_other hne).trans h

theorem keepsFrom_below {B : Nat} {W W' : World} (h : Below W.heap.size W W') : KeepsFrom B W W' := ⟨h.size, fun k _ _ hk _ => (h.block k (Array.getElem?_eq_some_iff.1 hk).1).trans hk⟩

/-! ### The law of a range over a function, in the three forms that the translation has for the loop's variable -/
theorem ownFrom_box {β : Type} (B0 B : Nat) (C : β → Array Value) (T : TypeId) : OwnFrom B0 (fun (s : β) W => W.heap[B]? = some (.cells (C s) T (0, 0))) := fun s X Y row hs hg hr => by
  refine (hg.block B (Array.getElem?_eq_some_iff.1 hs).1 (fun e => ?_)).trans hs
  obtain ⟨_, o, ho, hc⟩ := hr B e.symm
  rw [hs] at ho; cases ho; cases hc

def handed {α : Type} (encs : α → Array Value) (ps : Array Tmp) (a : Act) (x : α) : Act := { tmps := (ps.toList.zip (encs x).toList).foldl (fun t pv => t.setIfInBounds pv.1 pv.2) a.tmps, defers := [] }
theorem handed_eq {α : Type} (encs : α → Array Value) (ps : Array Tmp) (a : Act) (x : α) : handed encs ps a x = { tmps := (ps.zip (encs x)).foldl (fun t (p, v) => t.setIfInBounds p v) a.tmps, defers := [] } := by
  rw [handed, ← Array.toList_zip, Array.foldl_toList]
def Act.setTmp (a : Act) (d : Nat) (v : Value) : Act := { a with tmps := a.tmps.setIfInBounds d v }

section
variable {P : Program} {α : Type} {g : Operand} {ps : Array Tmp} {assign body : Code} {Q : Exit → Act → World → Prop} {a : Act} {w : World}

theorem rf_box {lo hi gf : Nat} {et : TypeId} {lb : Array Value} (hg : a.eval g = .func (.func gf) #[] lb) (eg : ∀ args w, (callFunc gf args).run P w = .ok (.enter gf args) w)
    {encs : α → Array Value} {S Sp : List α → Prop} {N : Nat} {w0 : World} (hseq : SeqStopsK Fence.wide 8 P gf lb encs (Kept lo hi et) S Sp N w0)
    (hb0 : Below w0.heap.size w0 w) (hps : ∀ x, (encs x).size = ps.size)
    (I : List α → World → Prop) (Ix : Code → List α → World → Prop) (hI : OwnFrom w.heap.size I) (hIx : ∀ c, OwnFrom w.heap.size (Ix c)) (h0 : I [] w) (d : Nat) (C : α → Array Value) (T : TypeId)
    (hsz : ∀ pre W, I pre W → w.heap.size ≤ W.heap.size)
    (hassign : ∀ (l : Nat) (x : α) (W : World) (K : Act → World → Prop), K (Act.setTmp (handed encs ps a x) d (.pointer (some ⟨W.heap.size, 0, none⟩))) (W.alloc (.cells (C x) T)) →
      assign.wpIn (Fence.wide.inRound l) 7 P (Exit.then K (fun _ _ _ => False)) (handed encs ps a x) W)
    (hbody : ∀ (l : Nat) (pre : List α) (x : α) (B : Nat) (W : World), w.heap.size ≤ l → (∃ r, W.heap[l]? = some (.loop r)) → I pre W → w.heap.size ≤ B → W.heap[B]? = some (.cells (C x) T (0, 0)) → pre.length < N →
      body.wpIn (Fence.wide.inRound l) 7 P (ownPostG w.heap.size (Kept lo hi et) I Ix (pre ++ [x]) W) (Act.setTmp (handed encs ps a x) d (.pointer (some ⟨B, 0, none⟩))) W)
    (hdone : ∀ (D : Nat) (xs : List α) (W : World), w.heap.size ≤ D → S xs → I xs W → W.heap[D]? = some (.deferred (some [])) → Q .normal { a with defers := { target := .collected D, args := #[] } :: a.defers } W)
    (hstop : ∀ (D : Nat) (c : Code) (pre : List α) (W : World), w.heap.size ≤ D → Sp pre → Ix c pre W → W.heap[D]? = some (.deferred (some [])) → c.wpIn Fence.wide 9 P Q { a with defers := { target := .collected D, args := #[] } :: a.defers } W) :
    (Code.rangeFunc g ps assign body).wpIn Fence.wide 9 P Q a w :=
  wpIn_rangeFunc_ownH (F := Fence.wide) (n := 9) rfl (by omega) hg trivial eg hseq Kept.trans (fun W l o o' _ h hc hw => Kept.putObj W l o o' h hc hw) hb0 hps I Ix hI hIx h0
    (fun x a' W => ∃ B, w.heap.size ≤ B ∧ a' = Act.setTmp (handed encs ps a x) d (.pointer (some ⟨B, 0, none⟩)) ∧ W.heap[B]? = some (.cells (C x) T (0, 0)))
    (fun x a' s X Y row hs hg' hr => by
      obtain ⟨B, h1, h2, h3⟩ := hs
      exact ⟨B, h1, h2, ownFrom_box (β := Unit) w.heap.size B (fun _ => C x) T () X Y row h3 hg' hr⟩)
    (fun l pre x W K hi' hK => handed_eq encs ps a x ▸ hassign l x W K (hK _ _ (((KeepsOthers.alloc W _).from _)) (Kept.alloc W _) (hI.alloc _ hi') ⟨W.heap.size, hsz _ _ hi', rfl, heap_new W _⟩))
    (fun l pre x a' W hl hr hi' ha hn => by
      obtain ⟨B, h1, rfl, h3⟩ := ha
      exact hbody l pre x B W hl hr hi' h1 h3 hn) hdone hstop
end

theorem below_mark {w W : World} (h : Below w.heap.size w W) {D : Nat} {o : Obj} (hD : w.heap.size ≤ D) (o' : Obj) (_ : W.heap[D]? = some o) : Below w.heap.size w (W.putObj D o') :=
  h.grown (grownBy_putObj' W D o') (h.size) (fun k e => by cases e; exact hD)

end Go.Proofs.YtmdkgajjekbanaaDoor
