/- Two queries held against each other: kinescopekit.SameQuery, tree.Same. -/
import Derived.Test.YteihcfhdhkamfaaSameD
namespace Go.Proofs.Yteihcfhdhkamfaa
open Go.RowKit

theorem equalPats_any (xs ys : List Pat) (vx vy : Value) (w : World) (h1 : RdPats w xs vx) (h2 : RdPats w ys vy) :
    Calls Try.prog 62 #[vx, vy, .func (.func 63) #[] #[]] w (Ret w (.bool (all2 patSame xs ys))) := equalFuncP_of xs ys tsamePattern_any vx vy w h1 h2


set_option maxRecDepth 100000 in
set_option maxHeartbeats 4000000 in
theorem sameQuery_any (x y : Qry) (cx cy : List Value) (w : World) (hx : RdQry w x cx) (hy : RdQry w y cy) :
    Calls Try.prog 28 #[.agg cx.toArray, .agg cy.toArray] w (Ret w (.bool (qrySame x y))) := by
  obtain ⟨v1, v2, v3, r1, r2, r3, rfl⟩ := hx
  obtain ⟨u1, u2, u3, s1, s2, s3, rfl⟩ := hy
  have HB := Lib.hid (fun o o' => ((Below.refl w.heap.size w).alloc (Nat.le_refl _) o).alloc (by simp) o')
  have HP := Lib.hid (fun w' (hb : Below w.heap.size w w') => samePatterns_any x.pats y.pats v1 u1 w' (rdPats_below hb r1) (rdPats_below hb s1))
  have HC := Lib.hid (fun w' (hb : Below w.heap.size w w') => sameConds_any x.conds y.conds v2 u2 w' (r2.below hb) (s2.below hb))
  have HR := Lib.hid (fun w' (hb : Below w.heap.size w w') => sameOperands_any x.ret y.ret v3 u3 w' (r3.below hb) (s3.below hb))
  obtain ⟨p1, k1, rfl, -, -⟩ := r1.shape
  obtain ⟨p2, k2, rfl, -, -⟩ := r2.shape
  obtain ⟨p3, k3, rfl, -, -⟩ := r3.shape
  obtain ⟨q1, m1, rfl, -, -⟩ := s1.shape
  obtain ⟨q2, m2, rfl, -, -⟩ := s2.shape
  obtain ⟨q3, m3, rfl, -, -⟩ := s3.shape
  clear r1 r2 r3 s1 s2 s3
  cases g0 : all2 patSame x.pats y.pats
  · have G0 := Lib.hid g0
    rw [g0] at HP
    go_enter Try.func28, Try.ntmps28
    go_wp2_with fail
    refine (HP.out _ (HB.out _ _)).mono ?_
    rintro e w1 ⟨rfl, hb1⟩
    obtain ⟨hc1, hf1⟩ := bcell hb1
    have hz1 : w.heap.size + 1 < w1.heap.size := by have := hb1.size; first | omega | (simp at this; omega)
    have hy1 : w.heap.size < w1.heap.size := by omega
    go_wp2_with fail
    go_ret
    exact ret_b rfl (by simp [qrySame, G0.out]) (below_step (HB.out _ _) hb1)
  · have G0 := Lib.hid g0
    rw [g0] at HP
    cases g1 : all2 Cnd.eqb x.conds y.conds
    · have G1 := Lib.hid g1
      rw [g1] at HC
      go_enter Try.func28, Try.ntmps28
      go_wp2_with fail
      refine (HP.out _ (HB.out _ _)).mono ?_
      rintro e w1 ⟨rfl, hb1⟩
      obtain ⟨hc1, hf1⟩ := bcell hb1
      have hz1 : w.heap.size + 1 < w1.heap.size := by have := hb1.size; first | omega | (simp at this; omega)
      have hy1 : w.heap.size < w1.heap.size := by omega
      go_wp2_with fail
      refine (HC.out _ (below_step (HB.out _ _) hb1)).mono ?_
      rintro e w2 ⟨rfl, hb2⟩
      obtain ⟨hc2, hf2⟩ := bcell hb2
      have hz2 : w.heap.size + 1 < w2.heap.size := by have := hb2.size; first | omega | (simp at this; omega)
      have hy2 : w.heap.size < w2.heap.size := by omega
      go_wp2_with fail
      go_ret
      exact ret_b rfl (by simp [qrySame, G0.out, G1.out]) (below_step (below_step (HB.out _ _) hb1) hb2)
    · have G1 := Lib.hid g1
      rw [g1] at HC
      cases g2 : all2 Opd.eqb x.ret y.ret
      · have G2 := Lib.hid g2
        rw [g2] at HR
        go_enter Try.func28, Try.ntmps28
        go_wp2_with fail
        refine (HP.out _ (HB.out _ _)).mono ?_
        rintro e w1 ⟨rfl, hb1⟩
        obtain ⟨hc1, hf1⟩ := bcell hb1
        have hz1 : w.heap.size + 1 < w1.heap.size := by have := hb1.size; first | omega | (simp at this; omega)
        have hy1 : w.heap.size < w1.heap.size := by omega
        go_wp2_with fail
        refine (HC.out _ (below_step (HB.out _ _) hb1)).mono ?_
        rintro e w2 ⟨rfl, hb2⟩
        obtain ⟨hc2, hf2⟩ := bcell hb2
        have hz2 : w.heap.size + 1 < w2.heap.size := by have := hb2.size; first | omega | (simp at this; omega)
        have hy2 : w.heap.size < w2.heap.size := by omega
        go_wp2_with fail
        refine (HR.out _ (below_step (below_step (HB.out _ _) hb1) hb2)).mono ?_
        rintro e w3 ⟨rfl, hb3⟩
        obtain ⟨hc3, hf3⟩ := bcell hb3
        have hz3 : w.heap.size + 1 < w3.heap.size := by have := hb3.size; first | omega | (simp at this; omega)
        have hy3 : w.heap.size < w3.heap.size := by omega
        go_wp2_with fail
        go_ret
        exact ret_b rfl (by simp [qrySame, G0.out, G1.out, G2.out]) (below_step (below_step (below_step (HB.out _ _) hb1) hb2) hb3)
      · have G2 := Lib.hid g2
        rw [g2] at HR
        cases g3 : x.range == y.range
        · have G3 := Lib.hid g3
          go_enter Try.func28, Try.ntmps28
          go_wp2_with fail
          refine (HP.out _ (HB.out _ _)).mono ?_
          rintro e w1 ⟨rfl, hb1⟩
          obtain ⟨hc1, hf1⟩ := bcell hb1
          have hz1 : w.heap.size + 1 < w1.heap.size := by have := hb1.size; first | omega | (simp at this; omega)
          have hy1 : w.heap.size < w1.heap.size := by omega
          go_wp2_with fail
          refine (HC.out _ (below_step (HB.out _ _) hb1)).mono ?_
          rintro e w2 ⟨rfl, hb2⟩
          obtain ⟨hc2, hf2⟩ := bcell hb2
          have hz2 : w.heap.size + 1 < w2.heap.size := by have := hb2.size; first | omega | (simp at this; omega)
          have hy2 : w.heap.size < w2.heap.size := by omega
          go_wp2_with fail
          refine (HR.out _ (below_step (below_step (HB.out _ _) hb1) hb2)).mono ?_
          rintro e w3 ⟨rfl, hb3⟩
          obtain ⟨hc3, hf3⟩ := bcell hb3
          have hz3 : w.heap.size + 1 < w3.heap.size := by have := hb3.size; first | omega | (simp at this; omega)
          have hy3 : w.heap.size < w3.heap.size := by omega
          go_wp2_with fail
          go_ret
          exact ret_b rfl (by simp [qrySame, G0.out, G1.out, G2.out, G3.out]) (below_step (below_step (below_step (HB.out _ _) hb1) hb2) hb3)
        · have G3 := Lib.hid g3
          cases g4 : x.slide == y.slide
          · have G4 := Lib.hid g4
            go_enter Try.func28, Try.ntmps28
            go_wp2_with fail
            refine (HP.out _ (HB.out _ _)).mono ?_
            rintro e w1 ⟨rfl, hb1⟩
            obtain ⟨hc1, hf1⟩ := bcell hb1
            have hz1 : w.heap.size + 1 < w1.heap.size := by have := hb1.size; first | omega | (simp at this; omega)
            have hy1 : w.heap.size < w1.heap.size := by omega
            go_wp2_with fail
            refine (HC.out _ (below_step (HB.out _ _) hb1)).mono ?_
            rintro e w2 ⟨rfl, hb2⟩
            obtain ⟨hc2, hf2⟩ := bcell hb2
            have hz2 : w.heap.size + 1 < w2.heap.size := by have := hb2.size; first | omega | (simp at this; omega)
            have hy2 : w.heap.size < w2.heap.size := by omega
            go_wp2_with fail
            refine (HR.out _ (below_step (below_step (HB.out _ _) hb1) hb2)).mono ?_
            rintro e w3 ⟨rfl, hb3⟩
            obtain ⟨hc3, hf3⟩ := bcell hb3
            have hz3 : w.heap.size + 1 < w3.heap.size := by have := hb3.size; first | omega | (simp at this; omega)
            have hy3 : w.heap.size < w3.heap.size := by omega
            go_wp2_with fail
            go_ret
            exact ret_b rfl (by simp [qrySame, G0.out, G1.out, G2.out, G3.out, G4.out]) (below_step (below_step (below_step (HB.out _ _) hb1) hb2) hb3)
          · have G4 := Lib.hid g4
            go_enter Try.func28, Try.ntmps28
            go_wp2_with fail
            refine (HP.out _ (HB.out _ _)).mono ?_
            rintro e w1 ⟨rfl, hb1⟩
            obtain ⟨hc1, hf1⟩ := bcell hb1
            have hz1 : w.heap.size + 1 < w1.heap.size := by have := hb1.size; first | omega | (simp at this; omega)
            have hy1 : w.heap.size < w1.heap.size := by omega
            go_wp2_with fail
            refine (HC.out _ (below_step (HB.out _ _) hb1)).mono ?_
            rintro e w2 ⟨rfl, hb2⟩
            obtain ⟨hc2, hf2⟩ := bcell hb2
            have hz2 : w.heap.size + 1 < w2.heap.size := by have := hb2.size; first | omega | (simp at this; omega)
            have hy2 : w.heap.size < w2.heap.size := by omega
            go_wp2_with fail
            refine (HR.out _ (below_step (below_step (HB.out _ _) hb1) hb2)).mono ?_
            rintro e w3 ⟨rfl, hb3⟩
            obtain ⟨hc3, hf3⟩ := bcell hb3
            have hz3 : w.heap.size + 1 < w3.heap.size := by have := hb3.size; first | omega | (simp at this; omega)
            have hy3 : w.heap.size < w3.heap.size := by omega
            go_wp2_with fail
            go_ret
            exact ret_b rfl (by simp [qrySame, G0.out, G1.out, G2.out, G3.out, G4.out]) (below_step (below_step (below_step (HB.out _ _) hb1) hb2) hb3)


set_option maxRecDepth 100000 in
set_option maxHeartbeats 4000000 in
theorem treeSame_any (x y : Qry) (cx cy : List Value) (w : World) (hx : RdQry w x cx) (hy : RdQry w y cy) :
    Calls Try.prog 16 #[.agg cx.toArray, .agg cy.toArray] w (Ret w (.bool (qrySame x y))) := by
  obtain ⟨v1, v2, v3, r1, r2, r3, rfl⟩ := hx
  obtain ⟨u1, u2, u3, s1, s2, s3, rfl⟩ := hy
  have HB := Lib.hid (fun o o' => ((Below.refl w.heap.size w).alloc (Nat.le_refl _) o).alloc (by simp) o')
  have HP := Lib.hid (fun w' (hb : Below w.heap.size w w') => equalPats_any x.pats y.pats v1 u1 w' (rdPats_below hb r1) (rdPats_below hb s1))
  have HC := Lib.hid (fun w' (hb : Below w.heap.size w w') => equalConds_any x.conds y.conds v2 u2 w' (r2.below hb) (s2.below hb))
  have HR := Lib.hid (fun w' (hb : Below w.heap.size w w') => equalOpds_any x.ret y.ret v3 u3 w' (r3.below hb) (s3.below hb))
  obtain ⟨p1, k1, rfl, -, -⟩ := r1.shape
  obtain ⟨p2, k2, rfl, -, -⟩ := r2.shape
  obtain ⟨p3, k3, rfl, -, -⟩ := r3.shape
  obtain ⟨q1, m1, rfl, -, -⟩ := s1.shape
  obtain ⟨q2, m2, rfl, -, -⟩ := s2.shape
  obtain ⟨q3, m3, rfl, -, -⟩ := s3.shape
  clear r1 r2 r3 s1 s2 s3
  cases g0 : x.range == y.range
  · have G0 := Lib.hid g0
    go_enter Try.func16, Try.ntmps16
    go_wp2_with fail
    go_ret
    exact ret_b rfl (by simp [qrySame, G0.out]) (HB.out _ _)
  · have G0 := Lib.hid g0
    cases g1 : x.slide == y.slide
    · have G1 := Lib.hid g1
      go_enter Try.func16, Try.ntmps16
      go_wp2_with fail
      go_ret
      exact ret_b rfl (by simp [qrySame, G0.out, G1.out]) (HB.out _ _)
    · have G1 := Lib.hid g1
      cases g2 : all2 patSame x.pats y.pats
      · have G2 := Lib.hid g2
        rw [g2] at HP
        go_enter Try.func16, Try.ntmps16
        go_wp2_with fail
        refine (HP.out _ (HB.out _ _)).mono ?_
        rintro e w1 ⟨rfl, hb1⟩
        obtain ⟨hc1, hf1⟩ := bcell hb1
        have hz1 : w.heap.size + 1 < w1.heap.size := by have := hb1.size; first | omega | (simp at this; omega)
        have hy1 : w.heap.size < w1.heap.size := by omega
        go_wp2_with fail
        go_ret
        exact ret_b rfl (by simp [qrySame, G0.out, G1.out, G2.out]) (below_step (HB.out _ _) hb1)
      · have G2 := Lib.hid g2
        rw [g2] at HP
        cases g3 : all2 Cnd.eqb x.conds y.conds
        · have G3 := Lib.hid g3
          rw [g3] at HC
          go_enter Try.func16, Try.ntmps16
          go_wp2_with fail
          refine (HP.out _ (HB.out _ _)).mono ?_
          rintro e w1 ⟨rfl, hb1⟩
          obtain ⟨hc1, hf1⟩ := bcell hb1
          have hz1 : w.heap.size + 1 < w1.heap.size := by have := hb1.size; first | omega | (simp at this; omega)
          have hy1 : w.heap.size < w1.heap.size := by omega
          go_wp2_with fail
          refine (HC.out _ (below_step (HB.out _ _) hb1)).mono ?_
          rintro e w2 ⟨rfl, hb2⟩
          obtain ⟨hc2, hf2⟩ := bcell hb2
          have hz2 : w.heap.size + 1 < w2.heap.size := by have := hb2.size; first | omega | (simp at this; omega)
          have hy2 : w.heap.size < w2.heap.size := by omega
          go_wp2_with fail
          go_ret
          exact ret_b rfl (by simp [qrySame, G0.out, G1.out, G2.out, G3.out]) (below_step (below_step (HB.out _ _) hb1) hb2)
        · have G3 := Lib.hid g3
          rw [g3] at HC
          cases g4 : all2 Opd.eqb x.ret y.ret
          · have G4 := Lib.hid g4
            rw [g4] at HR
            go_enter Try.func16, Try.ntmps16
            go_wp2_with fail
            refine (HP.out _ (HB.out _ _)).mono ?_
            rintro e w1 ⟨rfl, hb1⟩
            obtain ⟨hc1, hf1⟩ := bcell hb1
            have hz1 : w.heap.size + 1 < w1.heap.size := by have := hb1.size; first | omega | (simp at this; omega)
            have hy1 : w.heap.size < w1.heap.size := by omega
            go_wp2_with fail
            refine (HC.out _ (below_step (HB.out _ _) hb1)).mono ?_
            rintro e w2 ⟨rfl, hb2⟩
            obtain ⟨hc2, hf2⟩ := bcell hb2
            have hz2 : w.heap.size + 1 < w2.heap.size := by have := hb2.size; first | omega | (simp at this; omega)
            have hy2 : w.heap.size < w2.heap.size := by omega
            go_wp2_with fail
            refine (HR.out _ (below_step (below_step (HB.out _ _) hb1) hb2)).mono ?_
            rintro e w3 ⟨rfl, hb3⟩
            obtain ⟨hc3, hf3⟩ := bcell hb3
            have hz3 : w.heap.size + 1 < w3.heap.size := by have := hb3.size; first | omega | (simp at this; omega)
            have hy3 : w.heap.size < w3.heap.size := by omega
            go_wp2_with fail
            go_ret
            exact ret_b rfl (by simp [qrySame, G0.out, G1.out, G2.out, G3.out, G4.out]) (below_step (below_step (below_step (HB.out _ _) hb1) hb2) hb3)
          · have G4 := Lib.hid g4
            rw [g4] at HR
            go_enter Try.func16, Try.ntmps16
            go_wp2_with fail
            refine (HP.out _ (HB.out _ _)).mono ?_
            rintro e w1 ⟨rfl, hb1⟩
            obtain ⟨hc1, hf1⟩ := bcell hb1
            have hz1 : w.heap.size + 1 < w1.heap.size := by have := hb1.size; first | omega | (simp at this; omega)
            have hy1 : w.heap.size < w1.heap.size := by omega
            go_wp2_with fail
            refine (HC.out _ (below_step (HB.out _ _) hb1)).mono ?_
            rintro e w2 ⟨rfl, hb2⟩
            obtain ⟨hc2, hf2⟩ := bcell hb2
            have hz2 : w.heap.size + 1 < w2.heap.size := by have := hb2.size; first | omega | (simp at this; omega)
            have hy2 : w.heap.size < w2.heap.size := by omega
            go_wp2_with fail
            refine (HR.out _ (below_step (below_step (HB.out _ _) hb1) hb2)).mono ?_
            rintro e w3 ⟨rfl, hb3⟩
            obtain ⟨hc3, hf3⟩ := bcell hb3
            have hz3 : w.heap.size + 1 < w3.heap.size := by have := hb3.size; first | omega | (simp at this; omega)
            have hy3 : w.heap.size < w3.heap.size := by omega
            go_wp2_with fail
            go_ret
            exact ret_b rfl (by simp [qrySame, G0.out, G1.out, G2.out, G3.out, G4.out]) (below_step (below_step (below_step (HB.out _ _) hb1) hb2) hb3)

end Go.Proofs.Yteihcfhdhkamfaa
