/- kinescopekit.SameExpr, SameExprs: they tell whether two expressions are the same. -/

import Derived.Test.YtmdkgajjekbanaaDoorProg
import Derived.Test.YtmdkgajjekbanaaDoorTBase
import Derived.StillTailTactics
import Derived.Test.YtmdkgajjekbanaaDoorTWalk
import Derived.Test.YtmdkgajjekbanaaDoorTBase2
import Derived.Test.YtmdkgajjekbanaaDoorTExprA
import Derived.Test.YtmdkgajjekbanaaDoorTEnc
import Derived.Test.YtmdkgajjekbanaaDoorTBehP
import Derived.Test.YtmdkgajjekbanaaDoorTAbsV
/-! kinescopekit.SameExpr, SameExprs: they tell whether two expressions are the same. -/
namespace Go.Proofs.YtmdkgajjekbanaaDoor
open Go.RowKit

def SameExprC (x : Ex) : Prop := ∀ (y : Ex) (cx cy : List Value) (w : World), RdEx w x cx → RdEx w y cy →
  Calls Tryd.prog 48 #[.agg cx.toArray, .agg cy.toArray] w (Ret w (.bool (exSame x y)))

set_option maxRecDepth 100000 in
set_option maxHeartbeats 1000000 in
theorem sameExprs_of (xs : List Ex) (hx : ∀ x, x ∈ xs → SameExprC x) (ys : List Ex) (vx vy : Value) (w : World) (h1 : RdExs w xs vx) (h2 : RdExs w ys vy) :
    Calls Tryd.prog 68 #[vx, vy] w (Ret w (.bool (exsSame xs ys))) := by
  rw [exsSame_eq]
  obtain ⟨p, c, rfl, hc1, hc2⟩ := h1.shape
  obtain ⟨q, d, rfl, hd1, hd2⟩ := h2.shape
  unfold maxLen at hc2 hd2
  by_cases hl : xs.length = ys.length
  · have H1 := Lib.hid h1; have H2 := Lib.hid h2; have HX := Lib.hid hx; have HL := Lib.hid hl
    have hne : (((xs.length : Nat) : Int) != ((ys.length : Nat) : Int)) = false := by simp [hl]
    clear h1 h2 hx hl
    go_enter Tryd.func68, Tryd.ntmps68
    go_wp2_with fail
    go_loopw [4, 5] (fun r i wr => ∃ k : Nat, k ≤ xs.length ∧ r = .bool false ∧ i = .int .i64 k ∧ Below w.heap.size w wr ∧ ∀ j (h : j < k) (h' : j < xs.length) (h'' : j < ys.length), exSame xs[j] ys[j] = true) (fun _ i _ => xs.length - (intOf i).toNat)
    case atStart => exact ⟨0, Nat.zero_le _, rfl, rfl, Below.refl _ _, fun j h => by omega⟩
    case round =>
      obtain ⟨k, hk, rfl, rfl, hb, hP⟩ := hrel
      have HP := Lib.hid hP; clear hP
      by_cases hlt : k < xs.length
      · have hlt2 : k < ys.length := by have := HL.out; omega
        obtain ⟨b1, o1, k1, s1, l1, v1, rfl, hx1, hr1, a0, a1, a2⟩ := (H1.out.below hb).at hlt
        obtain ⟨b2, o2, k2, s2, l2, v2, rfl, hx2, hr2, c0, c1, c2⟩ := (H2.out.below hb).at hlt2
        have HC := Lib.hid (HX.out xs[k] (List.getElem_mem _) ys[k] [.int .i64 k1, .string s1, v1] [.int .i64 k2, .string s2, v2] wr.drew (by rw [hx1, RdEx]; exact ⟨v1, rfl, hr1.below (below_drew wr)⟩) (by rw [hx2, RdEx]; exact ⟨v2, rfl, hr2.below (below_drew wr)⟩))
        clear hx1 hr1 hx2 hr2
        cases hs : exSame xs[k] ys[k]
        · rw [hs] at HC
          have HS := Lib.hid hs; clear hs
          go_wp2_with fail
          go_still_tail 8, (by kernel_rfl)
          change wpList _ _ _ _ _ wr.drew
          go_wp2_with fail
          refine HC.out.mono ?_
          rintro e w' ⟨rfl, hb'⟩
          go_wp2_with fail
          go_ret
          exact ret_b rfl (all2_at hlt hlt2 HS.out).symm (below_step hb (Below.undrew hb'))
        · rw [hs] at HC
          have HS := Lib.hid hs; clear hs
          go_wp2_with fail
          go_still_tail 8, (by kernel_rfl)
          change wpList _ _ _ _ _ wr.drew
          go_wp2_with fail
          refine HC.out.mono ?_
          rintro e w' ⟨rfl, hb'⟩
          go_wp2_with fail
          go_roundw
          case rel => exact ⟨k + 1, by omega, rfl, by go_num, below_step hb (Below.undrew hb'), fun j h h' h'' => by
            by_cases e : j = k
            · subst e; exact HS.out
            · exact HP.out j (by omega) h' h''⟩
          case measure => simp [intOf]; omega
      · go_wp2_with fail
        go_ret
        have hk' : k = xs.length := by omega
        exact ret_b rfl (all2_iff.2 ⟨HL.out, fun i h h' => HP.out i (by omega) h h'⟩).symm hb
  · have hne : (((xs.length : Nat) : Int) != ((ys.length : Nat) : Int)) = true := by simp; omega
    clear h1 h2 hx
    rw [all2_len hl]
    clear hl
    go_enter Tryd.func68, Tryd.ntmps68
    go_wp2_with fail
    go_ret
    exact ⟨rfl, Below.refl _ _⟩

set_option maxRecDepth 100000 in
set_option maxHeartbeats 1000000 in
theorem sameExpr_any (x : Ex) : SameExprC x := by
  induction x using Ex.ind with
  | h k s l ih =>
    intro y cx cy w hx hy
    obtain ⟨k', s', l'⟩ := y
    rw [RdEx] at hx hy
    obtain ⟨vx, rfl, hx⟩ := hx
    obtain ⟨vy, rfl, hy⟩ := hy
    rw [exSame]
    have HB : ∀ o o', Below w.heap.size w ((w.alloc o).alloc o') := fun o o' => ((Below.refl _ _).alloc (Nat.le_refl _) o).alloc (by simp) o'
    cases hk : k == k'
    · clear ih hx hy
      rw [Bool.false_and, Bool.false_and]
      have HB' := Lib.hid HB; clear HB
      go_enter Tryd.func48, Tryd.ntmps48
      go_wp2_with fail
      go_ret
      exact ret_b rfl rfl (HB'.out _ _)
    · cases hs : s.toList == s'.toList
      · clear ih hx hy
        rw [Bool.and_false, Bool.false_and]
        have HB' := Lib.hid HB; clear HB
        go_enter Tryd.func48, Tryd.ntmps48
        go_wp2_with fail
        go_ret
        exact ret_b rfl rfl (HB'.out _ _)
      · rw [Bool.and_true, Bool.true_and]
        have HC := Lib.hid (fun w' (hb : Below w.heap.size w w') => sameExprs_of l ih l' vx vy w' (hx.below hb) (hy.below hb))
        have HB' := Lib.hid HB
        clear ih hx hy HB
        go_enter Tryd.func48, Tryd.ntmps48
        go_wp2_with fail
        refine (HC.out _ (HB'.out _ _)).mono ?_
        rintro e w' ⟨rfl, hb'⟩
        go_wp2_with fail
        go_ret
        exact ret_b rfl rfl (below_step (HB'.out _ _) hb')

end Go.Proofs.YtmdkgajjekbanaaDoor

/-! Loops that hold two slices against each other, element by element: texts, conditions, operands (kinescopekit.Same.., slices.Equal). -/
namespace Go.Proofs.YtmdkgajjekbanaaDoor
open Go.RowKit

end Go.Proofs.YtmdkgajjekbanaaDoor

/-! Two patterns held against each other; rows of patterns (kinescopekit). -/
namespace Go.Proofs.YtmdkgajjekbanaaDoor
open Go.RowKit

end Go.Proofs.YtmdkgajjekbanaaDoor

/-! expr.Same, tree.samePattern, tree.Same tell what kinescopekit.Same.. tells. -/
namespace Go.Proofs.YtmdkgajjekbanaaDoor
open Go.RowKit

end Go.Proofs.YtmdkgajjekbanaaDoor

/-! Two queries held against each other: kinescopekit.SameQuery, tree.Same. -/
namespace Go.Proofs.YtmdkgajjekbanaaDoor
open Go.RowKit

end Go.Proofs.YtmdkgajjekbanaaDoor

namespace Go.Proofs.YtmdkgajjekbanaaDoor
open Go.RowKit

end Go.Proofs.YtmdkgajjekbanaaDoor

namespace Go.Proofs.YtmdkgajjekbanaaDoor
open Go.RowKit

def ElemPat (f : FuncId) (cap : List Value) (q : Pat → Bool) (w : World) : Prop := ∀ (x : Pat) (k : Int) (s : ByteArray) (l : List Ex) (v : Value) (W : World), Below w.heap.size w W → x.ok → x.expr = .mk k s l → RdExs W l v →
  Calls Tryd.prog f (.agg #[.string x.frm, .string x.to, .bool x.path, .string x.label, .string x.name, .int .i64 k, .string s, v] :: cap).toArray W (Ret W (.bool (q x)))

def ElemCnd (f : FuncId) (cap : List Value) (q : Cnd → Bool) (w : World) : Prop := ∀ (x : Cnd) (W : World), Below w.heap.size w W → x.ok →
  Calls Tryd.prog f (.agg #[.int .i64 x.op, .int .i64 x.left.kind, .string x.left.name, .string x.left.key, .int .i64 x.left.val.kind, .int .i64 x.left.val.num, .string x.left.val.text, .int .i64 x.right.kind, .string x.right.name, .string x.right.key, .int .i64 x.right.val.kind, .int .i64 x.right.val.num, .string x.right.val.text] :: cap).toArray W (Ret W (.bool (q x)))

def ElemOpd (f : FuncId) (cap : List Value) (q : Opd → Bool) (w : World) : Prop := ∀ (x : Opd) (W : World), Below w.heap.size w W → x.ok →
  Calls Tryd.prog f (.agg #[.int .i64 x.kind, .string x.name, .string x.key, .int .i64 x.val.kind, .int .i64 x.val.num, .string x.val.text] :: cap).toArray W (Ret W (.bool (q x)))

end Go.Proofs.YtmdkgajjekbanaaDoor

namespace Go.Proofs.YtmdkgajjekbanaaDoor
open Go.RowKit

end Go.Proofs.YtmdkgajjekbanaaDoor

set_option linter.unusedSimpArgs false
set_option linter.unusedVariables false
namespace Go.Proofs.YtmdkgajjekbanaaDoor
open Go.RowKit

end Go.Proofs.YtmdkgajjekbanaaDoor

namespace Go.Proofs.YtmdkgajjekbanaaDoor
open Go.RowKit

section
variable {P : Program}
theorem turn_cell {s : AS} {k i j : Nat} {ob : AObj} {row : List AV} (T' : TypeId) (z' : Nat) (hz' : 0 < z') (hk : s.o[k]? = some (some ob)) (hz : 0 < ob.z) (hr : ob.rows[i]? = some row) (hj : row[j]? = some (.v (.slice none 0 0))) :
    Turn s (AS.mk s.t ((s.o ++ [some (AObj.mk T' z' true [])]).set k (some { ob with rows := ob.rows.set i (row.set j (.vec s.o.length 0)) })) s.y) := by
  intro f D nu a w hs
  have hv : ∀ b, blkM (Value.slice none 0 0) = some b → w.heap.size ≤ b := fun b e => by cases e
  have hp := push_mono (nu := nu) (o := s.o) (ob := ⟨T', z', true, []⟩) (Below.refl w.heap.size w) hv
  have hro := push_RO (ob := ⟨T', z', true, []⟩) hs.ro (Below.refl _ _) hv (.inl ⟨rfl, rfl, rfl⟩)
  have hlt := (List.getElem?_eq_some_iff.1 hk).1
  have hk' : (s.o ++ [some (⟨T', z', true, []⟩ : AObj)])[k]? = some (some ob) := by rw [List.getElem?_append_left hlt]; exact hk
  have hh : ob.hl = ({ ob with rows := ob.rows.set i (row.set j (.vec s.o.length 0)) } : AObj).hl := by simp [AObj.hl]
  obtain ⟨g, cur, hb⟩ : ∃ g cur, ROb D (updN nu s.o.length (.slice none 0 0)) (s.o ++ [some ⟨T', z', true, []⟩]) w k ob g cur := by
    rcases hro.obj k ob hk' with ⟨_, e, _⟩ | h | ⟨g, es, cl, hm⟩
    · rw [e] at hr; simp at hr
    · exact h
    · have := hm.z; omega
  have hm := set_mono (nu := updN nu s.o.length (.slice none 0 0)) (o := s.o ++ [some ⟨T', z', true, []⟩]) (w := w) (w' := w) (ob' := { ob with rows := ob.rows.set i (row.set j (.vec s.o.length 0)) }) hk' hh.symm hb.blkEq rfl rfl rfl rfl (fun _ _ => rfl)
  refine ⟨updN nu s.o.length (.slice none 0 0), hp.trans hm, rfl, ?_, (hs.tm.mono hp (fun _ _ h => h)).mono hm (fun _ _ h => h), hs.dfr⟩
  have hil := (List.getElem?_eq_some_iff.1 hr).1
  have hjl := (List.getElem?_eq_some_iff.1 hj).1
  have key : ∀ (i' j' : Nat) r c, (ob.rows.set i (row.set j (.vec s.o.length 0)))[i']? = some r → r[j']? = some c → ∃ r0 c0, ob.rows[i']? = some r0 ∧ r0[j']? = some c0 ∧ (c = c0 ∨ (c = .vec s.o.length 0 ∧ c0 = .v (.slice none 0 0))) := by
    intro i' j' r c h1 h2
    by_cases hi : i = i'
    · subst hi
      rw [List.getElem?_set_self hil] at h1; cases h1
      by_cases hj' : j = j'
      · subst hj'
        rw [List.getElem?_set_self hjl] at h2; cases h2
        exact ⟨row, _, hr, hj, .inr ⟨rfl, rfl⟩⟩
      · rw [List.getElem?_set_ne hj'] at h2
        exact ⟨row, c, hr, h2, .inl rfl⟩
    · rw [List.getElem?_set_ne hi] at h1
      exact ⟨r, c, h1, h2, .inl rfl⟩
  refine set_RO hro hk' hh.symm hb.blkEq hm (fun _ _ => rfl) (cur := cur) ⟨hb.blk, hb.dom, fun hv' => ?_, fun hv' => ?_, hb.z, fun i' r hi' => ?_, fun i' j' r c x h1 h2 h3 => ?_, fun i' j' r c x h1 h2 h3 => ?_⟩
  · obtain ⟨q1, q2, q3⟩ := hb.box hv'
    exact ⟨q1, by simpa using q2, q3⟩
  · obtain ⟨cap, q1, q2, q3, q4⟩ := hb.vec hv'
    exact ⟨cap, by simpa using q1, by simpa using q2, q3, q4⟩
  · by_cases hi : i = i'
    · subst hi
      rw [List.getElem?_set_self hil] at hi'; cases hi'
      rw [List.length_set]; exact hb.row i row hr
    · rw [List.getElem?_set_ne hi] at hi'
      exact hb.row i' r hi'
  · obtain ⟨r0, c0, k1, k2, e⟩ := key i' j' r c h1 h2
    have h0 := hb.cell i' j' r0 c0 x k1 k2 h3
    rcases e with rfl | ⟨rfl, rfl⟩
    · exact h0.mono hm (fun _ _ h => h)
    · obtain rfl := h0.v_eq
      have := RA.vec (D := D) (nu := updN nu s.o.length (.slice none 0 0)) (o := (s.o ++ [some (⟨T', z', true, []⟩ : AObj)])) (w := w) s.o.length 0 ⟨_, List.getElem?_concat_length, fun x hx => Nat.zero_le _⟩ (by rw [updN_new]; rfl)
      rw [updN_new] at this
      exact this.mono hm (fun _ _ h => h)
  · obtain ⟨r0, c0, k1, k2, _⟩ := key i' j' r c h1 h2
    exact hb.one i' j' r0 c0 x k1 k2 h3
end

def encT (l : List ByteArray) : List (List AV) := l.map (fun s => [.v (.string s)])

end Go.Proofs.YtmdkgajjekbanaaDoor
