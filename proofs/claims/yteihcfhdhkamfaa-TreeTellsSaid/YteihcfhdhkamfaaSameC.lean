/- Two patterns held against each other; rows of patterns (kinescopekit). -/
import Derived.Test.YteihcfhdhkamfaaSameA
import Derived.Test.YteihcfhdhkamfaaSameB
namespace Go.Proofs.Yteihcfhdhkamfaa
open Go.RowKit

def SamePatternC (f : FuncId) : Prop := ∀ (x y : Pat) (k1 : Int) (s1 : ByteArray) (l1 : List Ex) (v1 : Value) (k2 : Int) (s2 : ByteArray) (l2 : List Ex) (v2 : Value) (w : World),
  x.expr = .mk k1 s1 l1 → RdExs w l1 v1 → y.expr = .mk k2 s2 l2 → RdExs w l2 v2 →
  Calls Try.prog f #[.agg #[.string x.frm, .string x.to, .bool x.path, .string x.label, .string x.name, .int .i64 k1, .string s1, v1], .agg #[.string y.frm, .string y.to, .bool y.path, .string y.label, .string y.name, .int .i64 k2, .string s2, v2]] w (Ret w (.bool (patSame x y)))

set_option maxRecDepth 100000 in
set_option maxHeartbeats 2000000 in
theorem samePattern_any : SamePatternC 125 := by
  intro x y k1 s1 l1 v1 k2 s2 l2 v2 w e1 r1 e2 r2
  have HB := Lib.hid (fun o o' => ((Below.refl w.heap.size w).alloc (Nat.le_refl _) o).alloc (by simp) o')
  have HC := Lib.hid (fun w' (hb : Below w.heap.size w w') => sameExpr_any x.expr y.expr [.int .i64 k1, .string s1, v1] [.int .i64 k2, .string s2, v2] w' (by rw [e1, RdEx]; exact ⟨v1, rfl, r1.below hb⟩) (by rw [e2, RdEx]; exact ⟨v2, rfl, r2.below hb⟩))
  clear e1 r1 e2 r2
  cases g0 : x.frm.toList == y.frm.toList
  · skip
    have G0 := Lib.hid g0; 
    clear HC
    go_enter Try.func125, Try.ntmps125
    go_wp2_with fail
    go_ret
    exact ret_b rfl (by simp [patSame, G0.out]) (HB.out _ _)
  · skip
    cases g1 : x.to.toList == y.to.toList
    · skip
      have G0 := Lib.hid g0; have G1 := Lib.hid g1; 
      clear HC
      go_enter Try.func125, Try.ntmps125
      go_wp2_with fail
      go_ret
      exact ret_b rfl (by simp [patSame, G0.out, G1.out]) (HB.out _ _)
    · skip
      cases g2 : x.path == y.path
      · skip
        have G0 := Lib.hid g0; have G1 := Lib.hid g1; have G2 := Lib.hid g2; 
        clear HC
        go_enter Try.func125, Try.ntmps125
        go_wp2_with fail
        go_ret
        exact ret_b rfl (by simp [patSame, G0.out, G1.out, G2.out]) (HB.out _ _)
      · skip
        cases g3 : x.label.toList == y.label.toList
        · skip
          have G0 := Lib.hid g0; have G1 := Lib.hid g1; have G2 := Lib.hid g2; have G3 := Lib.hid g3; 
          clear HC
          go_enter Try.func125, Try.ntmps125
          go_wp2_with fail
          go_ret
          exact ret_b rfl (by simp [patSame, G0.out, G1.out, G2.out, G3.out]) (HB.out _ _)
        · skip
          cases g4 : x.name.toList == y.name.toList
          · skip
            have G0 := Lib.hid g0; have G1 := Lib.hid g1; have G2 := Lib.hid g2; have G3 := Lib.hid g3; have G4 := Lib.hid g4; 
            clear HC
            go_enter Try.func125, Try.ntmps125
            go_wp2_with fail
            go_ret
            exact ret_b rfl (by simp [patSame, G0.out, G1.out, G2.out, G3.out, G4.out]) (HB.out _ _)
          · skip
            have G0 := Lib.hid g0; have G1 := Lib.hid g1; have G2 := Lib.hid g2; have G3 := Lib.hid g3; have G4 := Lib.hid g4; 
            go_enter Try.func125, Try.ntmps125
            go_wp2_with fail
            refine (HC.out _ (HB.out _ _)).mono ?_
            rintro e w' ⟨rfl, hb'⟩
            go_wp2_with fail
            go_ret
            exact ret_b rfl (by simp [patSame, G0.out, G1.out, G2.out, G3.out, G4.out]) (below_step (HB.out _ _) hb')


set_option maxRecDepth 100000 in
set_option maxHeartbeats 2000000 in
theorem samePatterns_of (xs ys : List Pat) (hf : SamePatternC 125) (vx vy : Value) (w : World) (h1 : RdPats w xs vx) (h2 : RdPats w ys vy) :
    Calls Try.prog 80 #[vx, vy] w (Ret w (.bool (all2 patSame xs ys))) := by
  obtain ⟨p, c, rfl, hc1, hc2⟩ := h1.shape
  obtain ⟨q, d, rfl, hd1, hd2⟩ := h2.shape
  unfold maxLen at hc2 hd2
  by_cases hl : xs.length = ys.length
  · have H1 := Lib.hid h1; have H2 := Lib.hid h2; have HL := Lib.hid hl
    have HF := Lib.hid hf; clear hf
    have hne : (((xs.length : Nat) : Int) != ((ys.length : Nat) : Int)) = false := by simp [hl]
    clear h1 h2 hl
    go_enter Try.func80, Try.ntmps80
    go_wp2_with fail
    go_loopw [4, 5] (fun r i wr => ∃ k : Nat, k ≤ xs.length ∧ r = .bool false ∧ i = .int .i64 k ∧ Below w.heap.size w wr ∧ ∀ j (h : j < k) (h' : j < xs.length) (h'' : j < ys.length), patSame xs[j] ys[j] = true) (fun _ i _ => xs.length - (intOf i).toNat)
    case atStart => exact ⟨0, Nat.zero_le _, rfl, rfl, Below.refl _ _, fun j h => by omega⟩
    case round =>
      obtain ⟨k, hk, rfl, rfl, hb, hP⟩ := hrel
      have HP := Lib.hid hP; clear hP
      by_cases hlt : k < xs.length
      · have hlt2 : k < ys.length := by have := HL.out; omega
        obtain ⟨b1, o1, k1, s1, l1, v1, rfl, hx1, hr1, a0, a1, a2, a3, a4, a5, a6, a7⟩ := rdPats_at (rdPats_below hb H1.out) hlt
        obtain ⟨b2, o2, k2, s2, l2, v2, rfl, hx2, hr2, c0, c1, c2, c3, c4, c5, c6, c7⟩ := rdPats_at (rdPats_below hb H2.out) hlt2
        have HC := Lib.hid (HF.out xs[k] ys[k] k1 s1 l1 v1 k2 s2 l2 v2 wr.drew hx1 (hr1.below (below_drew wr)) hx2 (hr2.below (below_drew wr)))
        clear hx1 hr1 hx2 hr2
        cases hs : patSame xs[k] ys[k]
        · rw [hs] at HC
          have HS := Lib.hid hs; clear hs
          go_wp2_with fail
          go_still_tail 8, (by kernel_rfl)
          change wpList _ _ _ _ _ wr.drew
          go_wp2_with fail
          refine HC.out.mono ?_
          rintro e w' ⟨rfl, hb'⟩
          go_wp2_with fail
          go_ret
          exact ret_b rfl (all2_at hlt hlt2 HS.out).symm (below_step hb (Below.undrew hb'))
        · rw [hs] at HC
          have HS := Lib.hid hs; clear hs
          go_wp2_with fail
          go_still_tail 8, (by kernel_rfl)
          change wpList _ _ _ _ _ wr.drew
          go_wp2_with fail
          refine HC.out.mono ?_
          rintro e w' ⟨rfl, hb'⟩
          go_wp2_with fail
          go_roundw
          case rel => exact ⟨k + 1, by omega, rfl, by go_num, (below_step hb (Below.undrew hb')), fun j h h' h'' => by
            by_cases e : j = k
            · subst e; exact HS.out
            · exact HP.out j (by omega) h' h''⟩
          case measure => simp [intOf]; omega
      · go_wp2_with fail
        go_ret
        have hk' : k = xs.length := by omega
        exact ret_b rfl (all2_iff.2 ⟨HL.out, fun i h h' => HP.out i (by omega) h h'⟩).symm hb
  · have hne : (((xs.length : Nat) : Int) != ((ys.length : Nat) : Int)) = true := by simp; omega
    clear h1 h2 hf
    rw [all2_len hl]
    clear hl
    go_enter Try.func80, Try.ntmps80
    go_wp2_with fail
    go_ret
    exact ret_b rfl rfl (Below.refl _ _)

theorem samePatterns_any (xs ys : List Pat) (vx vy : Value) (w : World) (h1 : RdPats w xs vx) (h2 : RdPats w ys vy) :
    Calls Try.prog 80 #[vx, vy] w (Ret w (.bool (all2 patSame xs ys))) := samePatterns_of xs ys samePattern_any vx vy w h1 h2

end Go.Proofs.Yteihcfhdhkamfaa
