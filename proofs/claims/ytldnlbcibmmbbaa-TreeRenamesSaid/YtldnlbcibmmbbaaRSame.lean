/- kinescopekit.SameExpr, SameExprs: they tell whether two expressions are the same. -/
import Derived.Test.YtldnlbcibmmbbaaProg
import Derived.Test.YtldnlbcibmmbbaaRBase
import Derived.StillTailTactics
import Derived.Test.YtldnlbcibmmbbaaRFlat
import Derived.Test.YtldnlbcibmmbbaaRBase2

/-! kinescopekit.SameExpr, SameExprs: they tell whether two expressions are the same. -/
namespace Go.Proofs.Ytldnlbcibmmbbaa
open Go.RowKit

def SameExprC (x : Ex) : Prop := ∀ (y : Ex) (cx cy : List Value) (w : World), RdEx w x cx → RdEx w y cy →
 Calls Try.prog 81 #[.agg cx.toArray, .agg cy.toArray] w (Ret w (.bool (exSame x y)))

set_option maxRecDepth 100000 in
set_option maxHeartbeats 1000000 in
theorem sameExprs_of (xs : List Ex) (hx : ∀ x, x ∈ xs → SameExprC x) (ys : List Ex) (vx vy : Value) (w : World) (h1 : RdExs w xs vx) (h2 : RdExs w ys vy) :
  Calls Try.prog 95 #[vx, vy] w (Ret w (.bool (exsSame xs ys))) := by
 rw [exsSame_eq]
 obtain ⟨p, c, rfl, hc1, hc2⟩ := h1.shape
 obtain ⟨q, d, rfl, hd1, hd2⟩ := h2.shape
 unfold maxLen at hc2 hd2
 by_cases hl : xs.length = ys.length
 ·have H1 := Lib.hid h1; have H2 := Lib.hid h2; have HX := Lib.hid hx; have HL := Lib.hid hl
  have hne : (((xs.length : Nat) : Int) != ((ys.length : Nat) : Int)) = false := by simp [hl]
  clear h1 h2 hx hl
  go_enter Try.func95, Try.ntmps95
  go_wp2_with fail
  go_loopw [4, 5] (fun r i wr => ∃ k : Nat, k ≤ xs.length ∧ r = .bool false ∧ i = .int .i64 k ∧ Below w.heap.size w wr ∧ ∀ j (h : j < k) (h' : j < xs.length) (h'' : j < ys.length), exSame xs[j] ys[j] = true) (fun _ i _ => xs.length - (intOf i).toNat)
  case atStart => exact ⟨0, Nat.zero_le _, rfl, rfl, Below.refl _ _, fun j h => by omega⟩
  case round =>
   obtain ⟨k, hk, rfl, rfl, hb, hP⟩ := hrel
   have HP := Lib.hid hP; clear hP
   by_cases hlt : k < xs.length
   ·have hlt2 : k < ys.length := by have := HL.out; omega
    obtain ⟨b1, o1, k1, s1, l1, v1, rfl, hx1, hr1, a0, a1, a2⟩ := (H1.out.below hb).at hlt
    obtain ⟨b2, o2, k2, s2, l2, v2, rfl, hx2, hr2, c0, c1, c2⟩ := (H2.out.below hb).at hlt2
    have HC := Lib.hid (HX.out xs[k] (List.getElem_mem _) ys[k] [.int .i64 k1, .string s1, v1] [.int .i64 k2, .string s2, v2] wr.drew (by rw [hx1, RdEx]; exact ⟨v1, rfl, hr1.below (below_drew wr)⟩) (by rw [hx2, RdEx]; exact ⟨v2, rfl, hr2.below (below_drew wr)⟩))
    clear hx1 hr1 hx2 hr2
    cases hs : exSame xs[k] ys[k]
    ·rw [hs] at HC
     have HS := Lib.hid hs; clear hs
     go_wp2_with fail
     go_still_tail 8, (by kernel_rfl)
     change wpList _ _ _ _ _ wr.drew
     go_wp2_with fail
     refine HC.out.mono ?_
     rintro e w' ⟨rfl, hb'⟩
     go_wp2_with fail
     go_ret
     exact ret_b rfl (all2_at hlt hlt2 HS.out).symm (below_step hb (Below.undrew hb'))
    ·rw [hs] at HC
     have HS := Lib.hid hs; clear hs
     go_wp2_with fail
     go_still_tail 8, (by kernel_rfl)
     change wpList _ _ _ _ _ wr.drew
     go_wp2_with fail
     refine HC.out.mono ?_
     rintro e w' ⟨rfl, hb'⟩
     go_wp2_with fail
     go_roundw
     case rel => exact ⟨k + 1, by omega, rfl, by go_num, below_step hb (Below.undrew hb'), fun j h h' h'' => by
      by_cases e : j = k
      ·subst e; exact HS.out
      ·exact HP.out j (by omega) h' h''⟩
     case measure => simp [intOf]; omega
   ·go_wp2_with fail
    go_ret
    have hk' : k = xs.length := by omega
    exact ret_b rfl (all2_iff.2 ⟨HL.out, fun i h h' => HP.out i (by omega) h h'⟩).symm hb
 ·have hne : (((xs.length : Nat) : Int) != ((ys.length : Nat) : Int)) = true := by simp; omega
  clear h1 h2 hx
  rw [all2_len hl]
  clear hl
  go_enter Try.func95, Try.ntmps95
  go_wp2_with fail
  go_ret
  exact ⟨rfl, Below.refl _ _⟩

set_option maxRecDepth 100000 in
set_option maxHeartbeats 1000000 in
theorem sameExpr_any (x : Ex) : SameExprC x := by
 induction x using Ex.ind with
 | h k s l ih =>
  intro y cx cy w hx hy
  obtain ⟨k', s', l'⟩ := y
  rw [RdEx] at hx hy
  obtain ⟨vx, rfl, hx⟩ := hx
  obtain ⟨vy, rfl, hy⟩ := hy
  rw [exSame]
  have HB : ∀ o o', Below w.heap.size w ((w.alloc o).alloc o') := fun o o' => ((Below.refl _ _).alloc (Nat.le_refl _) o).alloc (by simp) o'
  cases hk : k == k'
  ·clear ih hx hy
   rw [Bool.false_and, Bool.false_and]
   have HB' := Lib.hid HB; clear HB
   go_enter Try.func81, Try.ntmps81
   go_wp2_with fail
   go_ret
   exact ret_b rfl rfl (HB'.out _ _)
  ·cases hs : s.toList == s'.toList
   ·clear ih hx hy
    rw [Bool.and_false, Bool.false_and]
    have HB' := Lib.hid HB; clear HB
    go_enter Try.func81, Try.ntmps81
    go_wp2_with fail
    go_ret
    exact ret_b rfl rfl (HB'.out _ _)
   ·rw [Bool.and_true, Bool.true_and]
    have HC := Lib.hid (fun w' (hb : Below w.heap.size w w') => sameExprs_of l ih l' vx vy w' (hx.below hb) (hy.below hb))
    have HB' := Lib.hid HB
    clear ih hx hy HB
    go_enter Try.func81, Try.ntmps81
    go_wp2_with fail
    refine (HC.out _ (HB'.out _ _)).mono ?_
    rintro e w' ⟨rfl, hb'⟩
    go_wp2_with fail
    go_ret
    exact ret_b rfl rfl (below_step (HB'.out _ _) hb')

end Go.Proofs.Ytldnlbcibmmbbaa

/-! Loops that hold two slices against each other, element by element: texts, conditions, operands (kinescopekit.Same.., slices.Equal). -/
namespace Go.Proofs.Ytldnlbcibmmbbaa
open Go.RowKit

set_option maxRecDepth 100000 in
set_option maxHeartbeats 2000000 in
theorem sameConds_any (xs ys : List Cnd) (vx vy : Value) (w : World) (h1 : RdCnds w xs vx) (h2 : RdCnds w ys vy) :
  Calls Try.prog 62 #[vx, vy] w (Ret w (.bool (all2 Cnd.eqb xs ys))) := by
 obtain ⟨p, c, rfl, hc1, hc2⟩ := h1.shape
 obtain ⟨q, d, rfl, hd1, hd2⟩ := h2.shape
 unfold maxLen at hc2 hd2
 by_cases hl : xs.length = ys.length
 ·have H1 := Lib.hid h1; have H2 := Lib.hid h2; have HL := Lib.hid hl
  skip
  have hne : (((xs.length : Nat) : Int) != ((ys.length : Nat) : Int)) = false := by simp [hl]
  clear h1 h2 hl
  go_enter Try.func62, Try.ntmps62
  go_wp2_with fail
  go_loopw [4, 5] (fun r i wr => ∃ k : Nat, k ≤ xs.length ∧ r = .bool false ∧ i = .int .i64 k ∧ Below w.heap.size w wr ∧ ∀ j (h : j < k) (h' : j < xs.length) (h'' : j < ys.length), Cnd.eqb xs[j] ys[j] = true) (fun _ i _ => xs.length - (intOf i).toNat)
  case atStart => exact ⟨0, Nat.zero_le _, rfl, rfl, Below.refl _ _, fun j h => by omega⟩
  case round =>
   obtain ⟨k, hk, rfl, rfl, hb, hP⟩ := hrel
   have HP := Lib.hid hP; clear hP
   by_cases hlt : k < xs.length
   ·have hlt2 : k < ys.length := by have := HL.out; omega
    obtain ⟨b1, o1, rfl, a0, a1, a2, a3, a4, a5, a6, a7, a8, a9, a10, a11, a12⟩ := rdCnds_at (H1.out.below hb) hlt
    obtain ⟨b2, o2, rfl, c0, c1, c2, c3, c4, c5, c6, c7, c8, c9, c10, c11, c12⟩ := rdCnds_at (H2.out.below hb) hlt2
    have hq := fun w => neq_cnd xs[k] ys[k] w
    cases hs : Cnd.eqb xs[k] ys[k]
    ·rw [hs, Bool.not_false] at hq
     have HS := Lib.hid hs; clear hs
     go_wp2_with fail
     go_still (by kernel_rfl)
     go_wp2_with fail
     go_ret
     exact ret_b rfl (all2_at hlt hlt2 HS.out).symm hb.drew
    ·rw [hs, Bool.not_true] at hq
     have HS := Lib.hid hs; clear hs
     go_wp2_with fail
     go_still (by kernel_rfl)
     go_wp2_with fail
     go_roundw
     case rel => exact ⟨k + 1, by omega, rfl, by go_num, hb.drew, fun j h h' h'' => by
      by_cases e : j = k
      ·subst e; exact HS.out
      ·exact HP.out j (by omega) h' h''⟩
     case measure => simp [intOf]; omega
   ·go_wp2_with fail
    go_ret
    have hk' : k = xs.length := by omega
    exact ret_b rfl (all2_iff.2 ⟨HL.out, fun i h h' => HP.out i (by omega) h h'⟩).symm hb
 ·have hne : (((xs.length : Nat) : Int) != ((ys.length : Nat) : Int)) = true := by simp; omega
  clear h1 h2
  rw [all2_len hl]
  clear hl
  go_enter Try.func62, Try.ntmps62
  go_wp2_with fail
  go_ret
  exact ret_b rfl rfl (Below.refl _ _)

set_option maxRecDepth 100000 in
set_option maxHeartbeats 2000000 in
theorem sameOperands_any (xs ys : List Opd) (vx vy : Value) (w : World) (h1 : RdOpds w xs vx) (h2 : RdOpds w ys vy) :
  Calls Try.prog 63 #[vx, vy] w (Ret w (.bool (all2 Opd.eqb xs ys))) := by
 obtain ⟨p, c, rfl, hc1, hc2⟩ := h1.shape
 obtain ⟨q, d, rfl, hd1, hd2⟩ := h2.shape
 unfold maxLen at hc2 hd2
 by_cases hl : xs.length = ys.length
 ·have H1 := Lib.hid h1; have H2 := Lib.hid h2; have HL := Lib.hid hl
  skip
  have hne : (((xs.length : Nat) : Int) != ((ys.length : Nat) : Int)) = false := by simp [hl]
  clear h1 h2 hl
  go_enter Try.func63, Try.ntmps63
  go_wp2_with fail
  go_loopw [4, 5] (fun r i wr => ∃ k : Nat, k ≤ xs.length ∧ r = .bool false ∧ i = .int .i64 k ∧ Below w.heap.size w wr ∧ ∀ j (h : j < k) (h' : j < xs.length) (h'' : j < ys.length), Opd.eqb xs[j] ys[j] = true) (fun _ i _ => xs.length - (intOf i).toNat)
  case atStart => exact ⟨0, Nat.zero_le _, rfl, rfl, Below.refl _ _, fun j h => by omega⟩
  case round =>
   obtain ⟨k, hk, rfl, rfl, hb, hP⟩ := hrel
   have HP := Lib.hid hP; clear hP
   by_cases hlt : k < xs.length
   ·have hlt2 : k < ys.length := by have := HL.out; omega
    obtain ⟨b1, o1, rfl, a0, a1, a2, a3, a4, a5⟩ := rdOpds_at (H1.out.below hb) hlt
    obtain ⟨b2, o2, rfl, c0, c1, c2, c3, c4, c5⟩ := rdOpds_at (H2.out.below hb) hlt2
    have hq := fun w => neq_opd xs[k] ys[k] w
    cases hs : Opd.eqb xs[k] ys[k]
    ·rw [hs, Bool.not_false] at hq
     have HS := Lib.hid hs; clear hs
     go_wp2_with fail
     go_still (by kernel_rfl)
     go_wp2_with fail
     go_ret
     exact ret_b rfl (all2_at hlt hlt2 HS.out).symm hb.drew
    ·rw [hs, Bool.not_true] at hq
     have HS := Lib.hid hs; clear hs
     go_wp2_with fail
     go_still (by kernel_rfl)
     go_wp2_with fail
     go_roundw
     case rel => exact ⟨k + 1, by omega, rfl, by go_num, hb.drew, fun j h h' h'' => by
      by_cases e : j = k
      ·subst e; exact HS.out
      ·exact HP.out j (by omega) h' h''⟩
     case measure => simp [intOf]; omega
   ·go_wp2_with fail
    go_ret
    have hk' : k = xs.length := by omega
    exact ret_b rfl (all2_iff.2 ⟨HL.out, fun i h h' => HP.out i (by omega) h h'⟩).symm hb
 ·have hne : (((xs.length : Nat) : Int) != ((ys.length : Nat) : Int)) = true := by simp; omega
  clear h1 h2
  rw [all2_len hl]
  clear hl
  go_enter Try.func63, Try.ntmps63
  go_wp2_with fail
  go_ret
  exact ret_b rfl rfl (Below.refl _ _)

set_option maxRecDepth 100000 in
set_option maxHeartbeats 2000000 in
theorem sameTexts_any (xs ys : List ByteArray) (vx vy : Value) (w : World) (h1 : RdStrs w xs vx) (h2 : RdStrs w ys vy) :
  Calls Try.prog 17 #[vx, vy] w (Ret w (.bool (all2 seqb xs ys))) := by
 obtain ⟨p, c, rfl, hc1, hc2⟩ := h1.shape
 obtain ⟨q, d, rfl, hd1, hd2⟩ := h2.shape
 unfold maxLen at hc2 hd2
 by_cases hl : xs.length = ys.length
 ·have H1 := Lib.hid h1; have H2 := Lib.hid h2; have HL := Lib.hid hl
  skip
  have hne : (((xs.length : Nat) : Int) != ((ys.length : Nat) : Int)) = false := by simp [hl]
  clear h1 h2 hl
  go_enter Try.func17, Try.ntmps17
  go_wp2_with fail
  go_loopw [4, 5] (fun r i wr => ∃ k : Nat, k ≤ xs.length ∧ r = .bool false ∧ i = .int .i64 k ∧ Below w.heap.size w wr ∧ ∀ j (h : j < k) (h' : j < xs.length) (h'' : j < ys.length), seqb xs[j] ys[j] = true) (fun _ i _ => xs.length - (intOf i).toNat)
  case atStart => exact ⟨0, Nat.zero_le _, rfl, rfl, Below.refl _ _, fun j h => by omega⟩
  case round =>
   obtain ⟨k, hk, rfl, rfl, hb, hP⟩ := hrel
   have HP := Lib.hid hP; clear hP
   by_cases hlt : k < xs.length
   ·have hlt2 : k < ys.length := by have := HL.out; omega
    obtain ⟨b1, o1, rfl, a0⟩ := rdStrs_at (H1.out.below hb) hlt
    obtain ⟨b2, o2, rfl, c0⟩ := rdStrs_at (H2.out.below hb) hlt2
    cases hs : seqb xs[k] ys[k]
    ·have HS := Lib.hid hs
     unfold seqb at hs
     go_wp2_with fail
     go_still (by kernel_rfl)
     go_wp2_with fail
     go_ret
     exact ret_b rfl (all2_at hlt hlt2 HS.out).symm hb.drew
    ·have HS := Lib.hid hs
     unfold seqb at hs
     go_wp2_with fail
     go_still (by kernel_rfl)
     go_wp2_with fail
     go_roundw
     case rel => exact ⟨k + 1, by omega, rfl, by go_num, hb.drew, fun j h h' h'' => by
      by_cases e : j = k
      ·subst e; exact HS.out
      ·exact HP.out j (by omega) h' h''⟩
     case measure => simp [intOf]; omega
   ·go_wp2_with fail
    go_ret
    have hk' : k = xs.length := by omega
    exact ret_b rfl (all2_iff.2 ⟨HL.out, fun i h h' => HP.out i (by omega) h h'⟩).symm hb
 ·have hne : (((xs.length : Nat) : Int) != ((ys.length : Nat) : Int)) = true := by simp; omega
  clear h1 h2
  rw [all2_len hl]
  clear hl
  go_enter Try.func17, Try.ntmps17
  go_wp2_with fail
  go_ret
  exact ret_b rfl rfl (Below.refl _ _)

end Go.Proofs.Ytldnlbcibmmbbaa

/-! Two patterns held against each other; rows of patterns (kinescopekit). -/
namespace Go.Proofs.Ytldnlbcibmmbbaa
open Go.RowKit

def SamePatternC (f : FuncId) : Prop := ∀ (x y : Pat) (k1 : Int) (s1 : ByteArray) (l1 : List Ex) (v1 : Value) (k2 : Int) (s2 : ByteArray) (l2 : List Ex) (v2 : Value) (w : World),
 x.expr = .mk k1 s1 l1 → RdExs w l1 v1 → y.expr = .mk k2 s2 l2 → RdExs w l2 v2 →
 Calls Try.prog f #[.agg #[.string x.frm, .string x.to, .bool x.path, .string x.label, .string x.name, .int .i64 k1, .string s1, v1], .agg #[.string y.frm, .string y.to, .bool y.path, .string y.label, .string y.name, .int .i64 k2, .string s2, v2]] w (Ret w (.bool (patSame x y)))

set_option maxRecDepth 100000 in
set_option maxHeartbeats 2000000 in
theorem samePattern_any : SamePatternC 65 := by
 intro x y k1 s1 l1 v1 k2 s2 l2 v2 w e1 r1 e2 r2
 have HB := Lib.hid (fun o o' => ((Below.refl w.heap.size w).alloc (Nat.le_refl _) o).alloc (by simp) o')
 have HC := Lib.hid (fun w' (hb : Below w.heap.size w w') => sameExpr_any x.expr y.expr [.int .i64 k1, .string s1, v1] [.int .i64 k2, .string s2, v2] w' (by rw [e1, RdEx]; exact ⟨v1, rfl, r1.below hb⟩) (by rw [e2, RdEx]; exact ⟨v2, rfl, r2.below hb⟩))
 clear e1 r1 e2 r2
 cases g0 : x.frm.toList == y.frm.toList
 ·skip
  have G0 := Lib.hid g0;
  clear HC
  go_enter Try.func65, Try.ntmps65
  go_wp2_with fail
  go_ret
  exact ret_b rfl (by simp [patSame, G0.out]) (HB.out _ _)
 ·skip
  cases g1 : x.to.toList == y.to.toList
  ·skip
   have G0 := Lib.hid g0; have G1 := Lib.hid g1;
   clear HC
   go_enter Try.func65, Try.ntmps65
   go_wp2_with fail
   go_ret
   exact ret_b rfl (by simp [patSame, G0.out, G1.out]) (HB.out _ _)
  ·skip
   cases g2 : x.path == y.path
   ·skip
    have G0 := Lib.hid g0; have G1 := Lib.hid g1; have G2 := Lib.hid g2;
    clear HC
    go_enter Try.func65, Try.ntmps65
    go_wp2_with fail
    go_ret
    exact ret_b rfl (by simp [patSame, G0.out, G1.out, G2.out]) (HB.out _ _)
   ·skip
    cases g3 : x.label.toList == y.label.toList
    ·skip
     have G0 := Lib.hid g0; have G1 := Lib.hid g1; have G2 := Lib.hid g2; have G3 := Lib.hid g3;
     clear HC
     go_enter Try.func65, Try.ntmps65
     go_wp2_with fail
     go_ret
     exact ret_b rfl (by simp [patSame, G0.out, G1.out, G2.out, G3.out]) (HB.out _ _)
    ·skip
     cases g4 : x.name.toList == y.name.toList
     ·skip
      have G0 := Lib.hid g0; have G1 := Lib.hid g1; have G2 := Lib.hid g2; have G3 := Lib.hid g3; have G4 := Lib.hid g4;
      clear HC
      go_enter Try.func65, Try.ntmps65
      go_wp2_with fail
      go_ret
      exact ret_b rfl (by simp [patSame, G0.out, G1.out, G2.out, G3.out, G4.out]) (HB.out _ _)
     ·skip
      have G0 := Lib.hid g0; have G1 := Lib.hid g1; have G2 := Lib.hid g2; have G3 := Lib.hid g3; have G4 := Lib.hid g4;
      go_enter Try.func65, Try.ntmps65
      go_wp2_with fail
      refine (HC.out _ (HB.out _ _)).mono ?_
      rintro e w' ⟨rfl, hb'⟩
      go_wp2_with fail
      go_ret
      exact ret_b rfl (by simp [patSame, G0.out, G1.out, G2.out, G3.out, G4.out]) (below_step (HB.out _ _) hb')

set_option maxRecDepth 100000 in
set_option maxHeartbeats 2000000 in
theorem samePatterns_of (xs ys : List Pat) (hf : SamePatternC 65) (vx vy : Value) (w : World) (h1 : RdPats w xs vx) (h2 : RdPats w ys vy) :
  Calls Try.prog 61 #[vx, vy] w (Ret w (.bool (all2 patSame xs ys))) := by
 obtain ⟨p, c, rfl, hc1, hc2⟩ := h1.shape
 obtain ⟨q, d, rfl, hd1, hd2⟩ := h2.shape
 unfold maxLen at hc2 hd2
 by_cases hl : xs.length = ys.length
 ·have H1 := Lib.hid h1; have H2 := Lib.hid h2; have HL := Lib.hid hl
  have HF := Lib.hid hf; clear hf
  have hne : (((xs.length : Nat) : Int) != ((ys.length : Nat) : Int)) = false := by simp [hl]
  clear h1 h2 hl
  go_enter Try.func61, Try.ntmps61
  go_wp2_with fail
  go_loopw [4, 5] (fun r i wr => ∃ k : Nat, k ≤ xs.length ∧ r = .bool false ∧ i = .int .i64 k ∧ Below w.heap.size w wr ∧ ∀ j (h : j < k) (h' : j < xs.length) (h'' : j < ys.length), patSame xs[j] ys[j] = true) (fun _ i _ => xs.length - (intOf i).toNat)
  case atStart => exact ⟨0, Nat.zero_le _, rfl, rfl, Below.refl _ _, fun j h => by omega⟩
  case round =>
   obtain ⟨k, hk, rfl, rfl, hb, hP⟩ := hrel
   have HP := Lib.hid hP; clear hP
   by_cases hlt : k < xs.length
   ·have hlt2 : k < ys.length := by have := HL.out; omega
    obtain ⟨b1, o1, k1, s1, l1, v1, rfl, hx1, hr1, a0, a1, a2, a3, a4, a5, a6, a7⟩ := rdPats_at (rdPats_below hb H1.out) hlt
    obtain ⟨b2, o2, k2, s2, l2, v2, rfl, hx2, hr2, c0, c1, c2, c3, c4, c5, c6, c7⟩ := rdPats_at (rdPats_below hb H2.out) hlt2
    have HC := Lib.hid (HF.out xs[k] ys[k] k1 s1 l1 v1 k2 s2 l2 v2 wr.drew hx1 (hr1.below (below_drew wr)) hx2 (hr2.below (below_drew wr)))
    clear hx1 hr1 hx2 hr2
    cases hs : patSame xs[k] ys[k]
    ·rw [hs] at HC
     have HS := Lib.hid hs; clear hs
     go_wp2_with fail
     go_still_tail 8, (by kernel_rfl)
     change wpList _ _ _ _ _ wr.drew
     go_wp2_with fail
     refine HC.out.mono ?_
     rintro e w' ⟨rfl, hb'⟩
     go_wp2_with fail
     go_ret
     exact ret_b rfl (all2_at hlt hlt2 HS.out).symm (below_step hb (Below.undrew hb'))
    ·rw [hs] at HC
     have HS := Lib.hid hs; clear hs
     go_wp2_with fail
     go_still_tail 8, (by kernel_rfl)
     change wpList _ _ _ _ _ wr.drew
     go_wp2_with fail
     refine HC.out.mono ?_
     rintro e w' ⟨rfl, hb'⟩
     go_wp2_with fail
     go_roundw
     case rel => exact ⟨k + 1, by omega, rfl, by go_num, (below_step hb (Below.undrew hb')), fun j h h' h'' => by
      by_cases e : j = k
      ·subst e; exact HS.out
      ·exact HP.out j (by omega) h' h''⟩
     case measure => simp [intOf]; omega
   ·go_wp2_with fail
    go_ret
    have hk' : k = xs.length := by omega
    exact ret_b rfl (all2_iff.2 ⟨HL.out, fun i h h' => HP.out i (by omega) h h'⟩).symm hb
 ·have hne : (((xs.length : Nat) : Int) != ((ys.length : Nat) : Int)) = true := by simp; omega
  clear h1 h2 hf
  rw [all2_len hl]
  clear hl
  go_enter Try.func61, Try.ntmps61
  go_wp2_with fail
  go_ret
  exact ret_b rfl rfl (Below.refl _ _)

theorem samePatterns_any (xs ys : List Pat) (vx vy : Value) (w : World) (h1 : RdPats w xs vx) (h2 : RdPats w ys vy) :
  Calls Try.prog 61 #[vx, vy] w (Ret w (.bool (all2 patSame xs ys))) := samePatterns_of xs ys samePattern_any vx vy w h1 h2

end Go.Proofs.Ytldnlbcibmmbbaa

/-! expr.Same, tree.samePattern, tree.Same tell what kinescopekit.Same.. tells. -/
namespace Go.Proofs.Ytldnlbcibmmbbaa
open Go.RowKit

def XSameC (x : Ex) : Prop := ∀ (y : Ex) (cx cy : List Value) (w : World), RdEx w x cx → RdEx w y cy →
 Calls Try.prog 70 #[.agg cx.toArray, .agg cy.toArray] w (Ret w (.bool (exSame x y)))

set_option maxRecDepth 100000 in
set_option maxHeartbeats 2000000 in
theorem equalFuncX_of (xs ys : List Ex) (hf : ∀ x, x ∈ xs → XSameC x) (vx vy : Value) (w : World) (h1 : RdExs w xs vx) (h2 : RdExs w ys vy) :
  Calls Try.prog 86 #[vx, vy, .func (.func 70) #[] #[]] w (Ret w (.bool (all2 exSame xs ys))) := by
 obtain ⟨p, c, rfl, hc1, hc2⟩ := h1.shape
 obtain ⟨q, d, rfl, hd1, hd2⟩ := h2.shape
 unfold maxLen at hc2 hd2
 by_cases hl : xs.length = ys.length
 ·have H1 := Lib.hid h1; have H2 := Lib.hid h2; have HL := Lib.hid hl
  have HF := Lib.hid hf; clear hf
  have hne : (((xs.length : Nat) : Int) != ((ys.length : Nat) : Int)) = false := by simp [hl]
  clear h1 h2 hl
  go_enter Try.func86, Try.ntmps86
  go_wp2_with fail
  go_loopw [6, 17] (fun r i wr => ∃ k : Nat, k ≤ xs.length ∧ r = .bool false ∧ i = .int .i64 k ∧ Below w.heap.size w wr ∧ ∀ j (h : j < k) (h' : j < xs.length) (h'' : j < ys.length), exSame xs[j] ys[j] = true) (fun _ i _ => xs.length - (intOf i).toNat)
  case atStart => exact ⟨0, Nat.zero_le _, rfl, rfl, Below.refl _ _, fun j h => by omega⟩
  case round =>
   obtain ⟨k, hk, rfl, rfl, hb, hP⟩ := hrel
   have HP := Lib.hid hP; clear hP
   by_cases hlt : k < xs.length
   ·have hlt2 : k < ys.length := by have := HL.out; omega
    obtain ⟨b1, o1, k1, s1, l1, v1, rfl, hx1, hr1, a0, a1, a2⟩ := (H1.out.below hb).at hlt
    obtain ⟨b2, o2, k2, s2, l2, v2, rfl, hx2, hr2, c0, c1, c2⟩ := (H2.out.below hb).at hlt2
    have hq1 := lt_of_cell a0
    have hq2 := lt_of_cell c0
    obtain ⟨pv1, cv1, rfl, -, -⟩ := hr1.shape
    obtain ⟨pv2, cv2, rfl, -, -⟩ := hr2.shape
    have HB := Lib.hid (fun o o' => ((Below.refl wr.heap.size wr).alloc (Nat.le_refl _) o).alloc (by simp) o')
    have HC := Lib.hid (fun w' (hw : Below wr.heap.size wr w') => HF.out xs[k] (List.getElem_mem _) ys[k] [.int .i64 k1, .string s1, .slice pv1 l1.length cv1] [.int .i64 k2, .string s2, .slice pv2 l2.length cv2] w' (by rw [hx1, RdEx]; exact ⟨_, rfl, hr1.below hw⟩) (by rw [hx2, RdEx]; exact ⟨_, rfl, hr2.below hw⟩))
    clear hx1 hr1 hx2 hr2
    cases hs : exSame xs[k] ys[k]
    ·rw [hs] at HC
     have HS := Lib.hid hs; clear hs
     go_wp2_with fail
     refine (HC.out _ (HB.out _ _)).mono ?_
     rintro e w' ⟨rfl, hb'⟩
     go_wp2_with fail
     go_ret
     exact ret_b rfl (all2_at hlt hlt2 HS.out).symm (below_step hb (below_step (HB.out _ _) hb'))
    ·rw [hs] at HC
     have HS := Lib.hid hs; clear hs
     go_wp2_with fail
     refine (HC.out _ (HB.out _ _)).mono ?_
     rintro e w' ⟨rfl, hb'⟩
     go_wp2_with fail
     go_roundw
     case rel => exact ⟨k + 1, by omega, rfl, by go_num, (below_step hb (below_step (HB.out _ _) hb')), fun j h h' h'' => by
      by_cases e : j = k
      ·subst e; exact HS.out
      ·exact HP.out j (by omega) h' h''⟩
     case measure => simp [intOf]; omega
   ·go_wp2_with fail
    go_ret
    have hk' : k = xs.length := by omega
    exact ret_b rfl (all2_iff.2 ⟨HL.out, fun i h h' => HP.out i (by omega) h h'⟩).symm hb
 ·have hne : (((xs.length : Nat) : Int) != ((ys.length : Nat) : Int)) = true := by simp; omega
  clear h1 h2 hf
  rw [all2_len hl]
  clear hl
  go_enter Try.func86, Try.ntmps86
  go_wp2_with fail
  go_ret
  exact ret_b rfl rfl (Below.refl _ _)

set_option maxRecDepth 100000 in
set_option maxHeartbeats 1000000 in
theorem xSame_any (x : Ex) : XSameC x := by
 induction x using Ex.ind with
 | h k s l ih =>
  intro y cx cy w hx hy
  obtain ⟨k', s', l'⟩ := y
  rw [RdEx] at hx hy
  obtain ⟨vx, rfl, hx⟩ := hx
  obtain ⟨vy, rfl, hy⟩ := hy
  rw [exSame_iff_kids]
  have HB' := Lib.hid (fun o o' => ((Below.refl w.heap.size w).alloc (Nat.le_refl _) o).alloc (by simp) o')
  cases hk : k == k'
  ·clear ih hx hy
   rw [Bool.false_and, Bool.false_and]
   go_enter Try.func70, Try.ntmps70
   go_wp2_with fail
   go_ret
   exact ret_b rfl rfl (HB'.out _ _)
  ·cases hs : s.toList == s'.toList
   ·clear ih hx hy
    rw [Bool.and_false, Bool.false_and]
    go_enter Try.func70, Try.ntmps70
    go_wp2_with fail
    go_ret
    exact ret_b rfl rfl (HB'.out _ _)
   ·rw [Bool.and_true, Bool.true_and]
    have HC := Lib.hid (fun w' (hb : Below w.heap.size w w') => equalFuncX_of l l' ih vx vy w' (hx.below hb) (hy.below hb))
    clear ih hx hy
    go_enter Try.func70, Try.ntmps70
    go_wp2_with fail
    refine (HC.out _ (HB'.out _ _)).mono ?_
    rintro e w' ⟨rfl, hb'⟩
    go_wp2_with fail
    go_ret
    exact ret_b rfl rfl (below_step (HB'.out _ _) hb')

end Go.Proofs.Ytldnlbcibmmbbaa

/-! Two queries held against each other: kinescopekit.SameQuery, tree.Same. -/
namespace Go.Proofs.Ytldnlbcibmmbbaa
open Go.RowKit

set_option maxRecDepth 100000 in
set_option maxHeartbeats 4000000 in
theorem sameQuery_any (x y : Qry) (cx cy : List Value) (w : World) (hx : RdQry w x cx) (hy : RdQry w y cy) :
  Calls Try.prog 37 #[.agg cx.toArray, .agg cy.toArray] w (Ret w (.bool (qrySame x y))) := by
 obtain ⟨v1, v2, v3, r1, r2, r3, rfl⟩ := hx
 obtain ⟨u1, u2, u3, s1, s2, s3, rfl⟩ := hy
 have HB := Lib.hid (fun o o' => ((Below.refl w.heap.size w).alloc (Nat.le_refl _) o).alloc (by simp) o')
 have HP := Lib.hid (fun w' (hb : Below w.heap.size w w') => samePatterns_any x.pats y.pats v1 u1 w' (rdPats_below hb r1) (rdPats_below hb s1))
 have HC := Lib.hid (fun w' (hb : Below w.heap.size w w') => sameConds_any x.conds y.conds v2 u2 w' (r2.below hb) (s2.below hb))
 have HR := Lib.hid (fun w' (hb : Below w.heap.size w w') => sameOperands_any x.ret y.ret v3 u3 w' (r3.below hb) (s3.below hb))
 obtain ⟨p1, k1, rfl, -, -⟩ := r1.shape
 obtain ⟨p2, k2, rfl, -, -⟩ := r2.shape
 obtain ⟨p3, k3, rfl, -, -⟩ := r3.shape
 obtain ⟨q1, m1, rfl, -, -⟩ := s1.shape
 obtain ⟨q2, m2, rfl, -, -⟩ := s2.shape
 obtain ⟨q3, m3, rfl, -, -⟩ := s3.shape
 clear r1 r2 r3 s1 s2 s3
 cases g0 : all2 patSame x.pats y.pats
 ·have G0 := Lib.hid g0
  rw [g0] at HP
  go_enter Try.func37, Try.ntmps37
  go_wp2_with fail
  refine (HP.out _ (HB.out _ _)).mono ?_
  rintro e w1 ⟨rfl, hb1⟩
  obtain ⟨hc1, hf1⟩ := bcell hb1
  have hz1 : w.heap.size + 1 < w1.heap.size := by have := hb1.size; first | omega | (simp at this; omega)
  have hy1 : w.heap.size < w1.heap.size := by omega
  go_wp2_with fail
  go_ret
  exact ret_b rfl (by simp [qrySame, G0.out]) (below_step (HB.out _ _) hb1)
 ·have G0 := Lib.hid g0
  rw [g0] at HP
  cases g1 : all2 Cnd.eqb x.conds y.conds
  ·have G1 := Lib.hid g1
   rw [g1] at HC
   go_enter Try.func37, Try.ntmps37
   go_wp2_with fail
   refine (HP.out _ (HB.out _ _)).mono ?_
   rintro e w1 ⟨rfl, hb1⟩
   obtain ⟨hc1, hf1⟩ := bcell hb1
   have hz1 : w.heap.size + 1 < w1.heap.size := by have := hb1.size; first | omega | (simp at this; omega)
   have hy1 : w.heap.size < w1.heap.size := by omega
   go_wp2_with fail
   refine (HC.out _ (below_step (HB.out _ _) hb1)).mono ?_
   rintro e w2 ⟨rfl, hb2⟩
   obtain ⟨hc2, hf2⟩ := bcell hb2
   have hz2 : w.heap.size + 1 < w2.heap.size := by have := hb2.size; first | omega | (simp at this; omega)
   have hy2 : w.heap.size < w2.heap.size := by omega
   go_wp2_with fail
   go_ret
   exact ret_b rfl (by simp [qrySame, G0.out, G1.out]) (below_step (below_step (HB.out _ _) hb1) hb2)
  ·have G1 := Lib.hid g1
   rw [g1] at HC
   cases g2 : all2 Opd.eqb x.ret y.ret
   ·have G2 := Lib.hid g2
    rw [g2] at HR
    go_enter Try.func37, Try.ntmps37
    go_wp2_with fail
    refine (HP.out _ (HB.out _ _)).mono ?_
    rintro e w1 ⟨rfl, hb1⟩
    obtain ⟨hc1, hf1⟩ := bcell hb1
    have hz1 : w.heap.size + 1 < w1.heap.size := by have := hb1.size; first | omega | (simp at this; omega)
    have hy1 : w.heap.size < w1.heap.size := by omega
    go_wp2_with fail
    refine (HC.out _ (below_step (HB.out _ _) hb1)).mono ?_
    rintro e w2 ⟨rfl, hb2⟩
    obtain ⟨hc2, hf2⟩ := bcell hb2
    have hz2 : w.heap.size + 1 < w2.heap.size := by have := hb2.size; first | omega | (simp at this; omega)
    have hy2 : w.heap.size < w2.heap.size := by omega
    go_wp2_with fail
    refine (HR.out _ (below_step (below_step (HB.out _ _) hb1) hb2)).mono ?_
    rintro e w3 ⟨rfl, hb3⟩
    obtain ⟨hc3, hf3⟩ := bcell hb3
    have hz3 : w.heap.size + 1 < w3.heap.size := by have := hb3.size; first | omega | (simp at this; omega)
    have hy3 : w.heap.size < w3.heap.size := by omega
    go_wp2_with fail
    go_ret
    exact ret_b rfl (by simp [qrySame, G0.out, G1.out, G2.out]) (below_step (below_step (below_step (HB.out _ _) hb1) hb2) hb3)
   ·have G2 := Lib.hid g2
    rw [g2] at HR
    cases g3 : x.range == y.range
    ·have G3 := Lib.hid g3
     go_enter Try.func37, Try.ntmps37
     go_wp2_with fail
     refine (HP.out _ (HB.out _ _)).mono ?_
     rintro e w1 ⟨rfl, hb1⟩
     obtain ⟨hc1, hf1⟩ := bcell hb1
     have hz1 : w.heap.size + 1 < w1.heap.size := by have := hb1.size; first | omega | (simp at this; omega)
     have hy1 : w.heap.size < w1.heap.size := by omega
     go_wp2_with fail
     refine (HC.out _ (below_step (HB.out _ _) hb1)).mono ?_
     rintro e w2 ⟨rfl, hb2⟩
     obtain ⟨hc2, hf2⟩ := bcell hb2
     have hz2 : w.heap.size + 1 < w2.heap.size := by have := hb2.size; first | omega | (simp at this; omega)
     have hy2 : w.heap.size < w2.heap.size := by omega
     go_wp2_with fail
     refine (HR.out _ (below_step (below_step (HB.out _ _) hb1) hb2)).mono ?_
     rintro e w3 ⟨rfl, hb3⟩
     obtain ⟨hc3, hf3⟩ := bcell hb3
     have hz3 : w.heap.size + 1 < w3.heap.size := by have := hb3.size; first | omega | (simp at this; omega)
     have hy3 : w.heap.size < w3.heap.size := by omega
     go_wp2_with fail
     go_ret
     exact ret_b rfl (by simp [qrySame, G0.out, G1.out, G2.out, G3.out]) (below_step (below_step (below_step (HB.out _ _) hb1) hb2) hb3)
    ·have G3 := Lib.hid g3
     cases g4 : x.slide == y.slide
     ·have G4 := Lib.hid g4
      go_enter Try.func37, Try.ntmps37
      go_wp2_with fail
      refine (HP.out _ (HB.out _ _)).mono ?_
      rintro e w1 ⟨rfl, hb1⟩
      obtain ⟨hc1, hf1⟩ := bcell hb1
      have hz1 : w.heap.size + 1 < w1.heap.size := by have := hb1.size; first | omega | (simp at this; omega)
      have hy1 : w.heap.size < w1.heap.size := by omega
      go_wp2_with fail
      refine (HC.out _ (below_step (HB.out _ _) hb1)).mono ?_
      rintro e w2 ⟨rfl, hb2⟩
      obtain ⟨hc2, hf2⟩ := bcell hb2
      have hz2 : w.heap.size + 1 < w2.heap.size := by have := hb2.size; first | omega | (simp at this; omega)
      have hy2 : w.heap.size < w2.heap.size := by omega
      go_wp2_with fail
      refine (HR.out _ (below_step (below_step (HB.out _ _) hb1) hb2)).mono ?_
      rintro e w3 ⟨rfl, hb3⟩
      obtain ⟨hc3, hf3⟩ := bcell hb3
      have hz3 : w.heap.size + 1 < w3.heap.size := by have := hb3.size; first | omega | (simp at this; omega)
      have hy3 : w.heap.size < w3.heap.size := by omega
      go_wp2_with fail
      go_ret
      exact ret_b rfl (by simp [qrySame, G0.out, G1.out, G2.out, G3.out, G4.out]) (below_step (below_step (below_step (HB.out _ _) hb1) hb2) hb3)
     ·have G4 := Lib.hid g4
      go_enter Try.func37, Try.ntmps37
      go_wp2_with fail
      refine (HP.out _ (HB.out _ _)).mono ?_
      rintro e w1 ⟨rfl, hb1⟩
      obtain ⟨hc1, hf1⟩ := bcell hb1
      have hz1 : w.heap.size + 1 < w1.heap.size := by have := hb1.size; first | omega | (simp at this; omega)
      have hy1 : w.heap.size < w1.heap.size := by omega
      go_wp2_with fail
      refine (HC.out _ (below_step (HB.out _ _) hb1)).mono ?_
      rintro e w2 ⟨rfl, hb2⟩
      obtain ⟨hc2, hf2⟩ := bcell hb2
      have hz2 : w.heap.size + 1 < w2.heap.size := by have := hb2.size; first | omega | (simp at this; omega)
      have hy2 : w.heap.size < w2.heap.size := by omega
      go_wp2_with fail
      refine (HR.out _ (below_step (below_step (HB.out _ _) hb1) hb2)).mono ?_
      rintro e w3 ⟨rfl, hb3⟩
      obtain ⟨hc3, hf3⟩ := bcell hb3
      have hz3 : w.heap.size + 1 < w3.heap.size := by have := hb3.size; first | omega | (simp at this; omega)
      have hy3 : w.heap.size < w3.heap.size := by omega
      go_wp2_with fail
      go_ret
      exact ret_b rfl (by simp [qrySame, G0.out, G1.out, G2.out, G3.out, G4.out]) (below_step (below_step (below_step (HB.out _ _) hb1) hb2) hb3)

end Go.Proofs.Ytldnlbcibmmbbaa
