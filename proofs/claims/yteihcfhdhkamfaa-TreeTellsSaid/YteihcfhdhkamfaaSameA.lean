/- kinescopekit.SameExpr, SameExprs: they tell whether two expressions are the same. -/
import Derived.Test.YteihcfhdhkamfaaProg
import Derived.Test.YteihcfhdhkamfaaBase
import Derived.StillTailTactics
namespace Go.Proofs.Yteihcfhdhkamfaa
open Go.RowKit

def SameExprC (x : Ex) : Prop := ∀ (y : Ex) (cx cy : List Value) (w : World), RdEx w x cx → RdEx w y cy →
  Calls Try.prog 143 #[.agg cx.toArray, .agg cy.toArray] w (Ret w (.bool (exSame x y)))

set_option maxRecDepth 100000 in
set_option maxHeartbeats 1000000 in
theorem sameExprs_of (xs : List Ex) (hx : ∀ x, x ∈ xs → SameExprC x) (ys : List Ex) (vx vy : Value) (w : World) (h1 : RdExs w xs vx) (h2 : RdExs w ys vy) :
    Calls Try.prog 148 #[vx, vy] w (Ret w (.bool (exsSame xs ys))) := by
  rw [exsSame_eq]
  obtain ⟨p, c, rfl, hc1, hc2⟩ := h1.shape
  obtain ⟨q, d, rfl, hd1, hd2⟩ := h2.shape
  unfold maxLen at hc2 hd2
  by_cases hl : xs.length = ys.length
  · have H1 := Lib.hid h1; have H2 := Lib.hid h2; have HX := Lib.hid hx; have HL := Lib.hid hl
    have hne : (((xs.length : Nat) : Int) != ((ys.length : Nat) : Int)) = false := by simp [hl]
    clear h1 h2 hx hl
    go_enter Try.func148, Try.ntmps148
    go_wp2_with fail
    go_loopw [4, 5] (fun r i wr => ∃ k : Nat, k ≤ xs.length ∧ r = .bool false ∧ i = .int .i64 k ∧ Below w.heap.size w wr ∧ ∀ j (h : j < k) (h' : j < xs.length) (h'' : j < ys.length), exSame xs[j] ys[j] = true) (fun _ i _ => xs.length - (intOf i).toNat)
    case atStart => exact ⟨0, Nat.zero_le _, rfl, rfl, Below.refl _ _, fun j h => by omega⟩
    case round =>
      obtain ⟨k, hk, rfl, rfl, hb, hP⟩ := hrel
      have HP := Lib.hid hP; clear hP
      by_cases hlt : k < xs.length
      · have hlt2 : k < ys.length := by have := HL.out; omega
        obtain ⟨b1, o1, k1, s1, l1, v1, rfl, hx1, hr1, a0, a1, a2⟩ := (H1.out.below hb).at hlt
        obtain ⟨b2, o2, k2, s2, l2, v2, rfl, hx2, hr2, c0, c1, c2⟩ := (H2.out.below hb).at hlt2
        have HC := Lib.hid (HX.out xs[k] (List.getElem_mem _) ys[k] [.int .i64 k1, .string s1, v1] [.int .i64 k2, .string s2, v2] wr.drew (by rw [hx1, RdEx]; exact ⟨v1, rfl, hr1.below (below_drew wr)⟩) (by rw [hx2, RdEx]; exact ⟨v2, rfl, hr2.below (below_drew wr)⟩))
        clear hx1 hr1 hx2 hr2
        cases hs : exSame xs[k] ys[k]
        · rw [hs] at HC
          have HS := Lib.hid hs; clear hs
          go_wp2_with fail
          go_still_tail 8, (by kernel_rfl)
          change wpList _ _ _ _ _ wr.drew
          go_wp2_with fail
          refine HC.out.mono ?_
          rintro e w' ⟨rfl, hb'⟩
          go_wp2_with fail
          go_ret
          exact ret_b rfl (all2_at hlt hlt2 HS.out).symm (below_step hb (Below.undrew hb'))
        · rw [hs] at HC
          have HS := Lib.hid hs; clear hs
          go_wp2_with fail
          go_still_tail 8, (by kernel_rfl)
          change wpList _ _ _ _ _ wr.drew
          go_wp2_with fail
          refine HC.out.mono ?_
          rintro e w' ⟨rfl, hb'⟩
          go_wp2_with fail
          go_roundw
          case rel => exact ⟨k + 1, by omega, rfl, by go_num, below_step hb (Below.undrew hb'), fun j h h' h'' => by
            by_cases e : j = k
            · subst e; exact HS.out
            · exact HP.out j (by omega) h' h''⟩
          case measure => simp [intOf]; omega
      · go_wp2_with fail
        go_ret
        have hk' : k = xs.length := by omega
        exact ret_b rfl (all2_iff.2 ⟨HL.out, fun i h h' => HP.out i (by omega) h h'⟩).symm hb
  · have hne : (((xs.length : Nat) : Int) != ((ys.length : Nat) : Int)) = true := by simp; omega
    clear h1 h2 hx
    rw [all2_len hl]
    clear hl
    go_enter Try.func148, Try.ntmps148
    go_wp2_with fail
    go_ret
    exact ⟨rfl, Below.refl _ _⟩

set_option maxRecDepth 100000 in
set_option maxHeartbeats 1000000 in
theorem sameExpr_any (x : Ex) : SameExprC x := by
  induction x using Ex.ind with
  | h k s l ih =>
    intro y cx cy w hx hy
    obtain ⟨k', s', l'⟩ := y
    rw [RdEx] at hx hy
    obtain ⟨vx, rfl, hx⟩ := hx
    obtain ⟨vy, rfl, hy⟩ := hy
    rw [exSame]
    have HB : ∀ o o', Below w.heap.size w ((w.alloc o).alloc o') := fun o o' => ((Below.refl _ _).alloc (Nat.le_refl _) o).alloc (by simp) o'
    cases hk : k == k'
    · clear ih hx hy
      rw [Bool.false_and, Bool.false_and]
      have HB' := Lib.hid HB; clear HB
      go_enter Try.func143, Try.ntmps143
      go_wp2_with fail
      go_ret
      exact ret_b rfl rfl (HB'.out _ _)
    · cases hs : s.toList == s'.toList
      · clear ih hx hy
        rw [Bool.and_false, Bool.false_and]
        have HB' := Lib.hid HB; clear HB
        go_enter Try.func143, Try.ntmps143
        go_wp2_with fail
        go_ret
        exact ret_b rfl rfl (HB'.out _ _)
      · rw [Bool.and_true, Bool.true_and]
        have HC := Lib.hid (fun w' (hb : Below w.heap.size w w') => sameExprs_of l ih l' vx vy w' (hx.below hb) (hy.below hb))
        have HB' := Lib.hid HB
        clear ih hx hy HB
        go_enter Try.func143, Try.ntmps143
        go_wp2_with fail
        refine (HC.out _ (HB'.out _ _)).mono ?_
        rintro e w' ⟨rfl, hb'⟩
        go_wp2_with fail
        go_ret
        exact ret_b rfl rfl (below_step (HB'.out _ _) hb')

theorem sameExprs_any (xs ys : List Ex) (vx vy : Value) (w : World) (h1 : RdExs w xs vx) (h2 : RdExs w ys vy) :
    Calls Try.prog 148 #[vx, vy] w (Ret w (.bool (exsSame xs ys))) :=
  sameExprs_of xs (fun x _ => sameExpr_any x) ys vx vy w h1 h2

end Go.Proofs.Yteihcfhdhkamfaa
