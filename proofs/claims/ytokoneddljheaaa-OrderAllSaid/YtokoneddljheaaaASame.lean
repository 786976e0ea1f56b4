/- kinescopekit.SameExpr, SameExprs: they tell whether two expressions are the same. -/
import Derived.Test.YtokoneddljheaaaProg
import Derived.Test.YtokoneddljheaaaABase
import Derived.StillTailTactics
import Derived.Test.YtokoneddljheaaaAFlat
import Derived.Test.YtokoneddljheaaaABase2

/-! kinescopekit.SameExpr, SameExprs: they tell whether two expressions are the same. -/
namespace Go.Proofs.Ytokoneddljheaaa
open Go.RowKit

end Go.Proofs.Ytokoneddljheaaa

/-! Loops that hold two slices against each other, element by element: texts, conditions, operands (kinescopekit.Same.., slices.Equal). -/
namespace Go.Proofs.Ytokoneddljheaaa
open Go.RowKit

end Go.Proofs.Ytokoneddljheaaa

/-! Two patterns held against each other; rows of patterns (kinescopekit). -/
namespace Go.Proofs.Ytokoneddljheaaa
open Go.RowKit

def SamePatternC (f : FuncId) : Prop := ∀ (x y : Pat) (k1 : Int) (s1 : ByteArray) (l1 : List Ex) (v1 : Value) (k2 : Int) (s2 : ByteArray) (l2 : List Ex) (v2 : Value) (w : World),
  x.expr = .mk k1 s1 l1 → RdExs w l1 v1 → y.expr = .mk k2 s2 l2 → RdExs w l2 v2 →
  Calls Try.prog f #[.agg #[.string x.frm, .string x.to, .bool x.path, .string x.label, .string x.name, .int .i64 k1, .string s1, v1], .agg #[.string y.frm, .string y.to, .bool y.path, .string y.label, .string y.name, .int .i64 k2, .string s2, v2]] w (Ret w (.bool (patSame x y)))

end Go.Proofs.Ytokoneddljheaaa

/-! expr.Same, tree.samePattern, tree.Same tell what kinescopekit.Same.. tells. -/
namespace Go.Proofs.Ytokoneddljheaaa
open Go.RowKit

def XSameC (x : Ex) : Prop := ∀ (y : Ex) (cx cy : List Value) (w : World), RdEx w x cx → RdEx w y cy →
  Calls Try.prog 34 #[.agg cx.toArray, .agg cy.toArray] w (Ret w (.bool (exSame x y)))

set_option maxRecDepth 100000 in
set_option maxHeartbeats 2000000 in
theorem equalFuncX_of (xs ys : List Ex) (hf : ∀ x, x ∈ xs → XSameC x) (vx vy : Value) (w : World) (h1 : RdExs w xs vx) (h2 : RdExs w ys vy) :
    Calls Try.prog 60 #[vx, vy, .func (.func 34) #[] #[]] w (Ret w (.bool (all2 exSame xs ys))) := by
  obtain ⟨p, c, rfl, hc1, hc2⟩ := h1.shape
  obtain ⟨q, d, rfl, hd1, hd2⟩ := h2.shape
  unfold maxLen at hc2 hd2
  by_cases hl : xs.length = ys.length
  · have H1 := Lib.hid h1; have H2 := Lib.hid h2; have HL := Lib.hid hl
    have HF := Lib.hid hf; clear hf
    have hne : (((xs.length : Nat) : Int) != ((ys.length : Nat) : Int)) = false := by simp [hl]
    clear h1 h2 hl
    go_enter Try.func60, Try.ntmps60
    go_wp2_with fail
    go_loopw [6, 17] (fun r i wr => ∃ k : Nat, k ≤ xs.length ∧ r = .bool false ∧ i = .int .i64 k ∧ Below w.heap.size w wr ∧ ∀ j (h : j < k) (h' : j < xs.length) (h'' : j < ys.length), exSame xs[j] ys[j] = true) (fun _ i _ => xs.length - (intOf i).toNat)
    case atStart => exact ⟨0, Nat.zero_le _, rfl, rfl, Below.refl _ _, fun j h => by omega⟩
    case round =>
      obtain ⟨k, hk, rfl, rfl, hb, hP⟩ := hrel
      have HP := Lib.hid hP; clear hP
      by_cases hlt : k < xs.length
      · have hlt2 : k < ys.length := by have := HL.out; omega
        obtain ⟨b1, o1, k1, s1, l1, v1, rfl, hx1, hr1, a0, a1, a2⟩ := (H1.out.below hb).at hlt
        obtain ⟨b2, o2, k2, s2, l2, v2, rfl, hx2, hr2, c0, c1, c2⟩ := (H2.out.below hb).at hlt2
        have hq1 := lt_of_cell a0
        have hq2 := lt_of_cell c0
        obtain ⟨pv1, cv1, rfl, -, -⟩ := hr1.shape
        obtain ⟨pv2, cv2, rfl, -, -⟩ := hr2.shape
        have HB := Lib.hid (fun o o' => ((Below.refl wr.heap.size wr).alloc (Nat.le_refl _) o).alloc (by simp) o')
        have HC := Lib.hid (fun w' (hw : Below wr.heap.size wr w') => HF.out xs[k] (List.getElem_mem _) ys[k] [.int .i64 k1, .string s1, .slice pv1 l1.length cv1] [.int .i64 k2, .string s2, .slice pv2 l2.length cv2] w' (by rw [hx1, RdEx]; exact ⟨_, rfl, hr1.below hw⟩) (by rw [hx2, RdEx]; exact ⟨_, rfl, hr2.below hw⟩))
        clear hx1 hr1 hx2 hr2
        cases hs : exSame xs[k] ys[k]
        · rw [hs] at HC
          have HS := Lib.hid hs; clear hs
          go_wp2_with fail
          refine (HC.out _ (HB.out _ _)).mono ?_
          rintro e w' ⟨rfl, hb'⟩
          go_wp2_with fail
          go_ret
          exact ret_b rfl (all2_at hlt hlt2 HS.out).symm (below_step hb (below_step (HB.out _ _) hb'))
        · rw [hs] at HC
          have HS := Lib.hid hs; clear hs
          go_wp2_with fail
          refine (HC.out _ (HB.out _ _)).mono ?_
          rintro e w' ⟨rfl, hb'⟩
          go_wp2_with fail
          go_roundw
          case rel => exact ⟨k + 1, by omega, rfl, by go_num, (below_step hb (below_step (HB.out _ _) hb')), fun j h h' h'' => by
            by_cases e : j = k
            · subst e; exact HS.out
            · exact HP.out j (by omega) h' h''⟩
          case measure => simp [intOf]; omega
      · go_wp2_with fail
        go_ret
        have hk' : k = xs.length := by omega
        exact ret_b rfl (all2_iff.2 ⟨HL.out, fun i h h' => HP.out i (by omega) h h'⟩).symm hb
  · have hne : (((xs.length : Nat) : Int) != ((ys.length : Nat) : Int)) = true := by simp; omega
    clear h1 h2 hf
    rw [all2_len hl]
    clear hl
    go_enter Try.func60, Try.ntmps60
    go_wp2_with fail
    go_ret
    exact ret_b rfl rfl (Below.refl _ _)

set_option maxRecDepth 100000 in
set_option maxHeartbeats 1000000 in
theorem xSame_any (x : Ex) : XSameC x := by
  induction x using Ex.ind with
  | h k s l ih =>
    intro y cx cy w hx hy
    obtain ⟨k', s', l'⟩ := y
    rw [RdEx] at hx hy
    obtain ⟨vx, rfl, hx⟩ := hx
    obtain ⟨vy, rfl, hy⟩ := hy
    rw [exSame_iff_kids]
    have HB' := Lib.hid (fun o o' => ((Below.refl w.heap.size w).alloc (Nat.le_refl _) o).alloc (by simp) o')
    cases hk : k == k'
    · clear ih hx hy
      rw [Bool.false_and, Bool.false_and]
      go_enter Try.func34, Try.ntmps34
      go_wp2_with fail
      go_ret
      exact ret_b rfl rfl (HB'.out _ _)
    · cases hs : s.toList == s'.toList
      · clear ih hx hy
        rw [Bool.and_false, Bool.false_and]
        go_enter Try.func34, Try.ntmps34
        go_wp2_with fail
        go_ret
        exact ret_b rfl rfl (HB'.out _ _)
      · rw [Bool.and_true, Bool.true_and]
        have HC := Lib.hid (fun w' (hb : Below w.heap.size w w') => equalFuncX_of l l' ih vx vy w' (hx.below hb) (hy.below hb))
        clear ih hx hy
        go_enter Try.func34, Try.ntmps34
        go_wp2_with fail
        refine (HC.out _ (HB'.out _ _)).mono ?_
        rintro e w' ⟨rfl, hb'⟩
        go_wp2_with fail
        go_ret
        exact ret_b rfl rfl (below_step (HB'.out _ _) hb')

end Go.Proofs.Ytokoneddljheaaa

/-! Two queries held against each other: kinescopekit.SameQuery, tree.Same. -/
namespace Go.Proofs.Ytokoneddljheaaa
open Go.RowKit

end Go.Proofs.Ytokoneddljheaaa
