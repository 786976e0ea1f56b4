/- tree.Right -/
import Derived.Test.YtldnlbcibmmbbaaREvery
import Derived.Test.YtldnlbcibmmbbaaRTy
import Derived.Test.YtldnlbcibmmbbaaREnc
import Derived.Test.YtldnlbcibmmbbaaRVerts
import Derived.Test.YtldnlbcibmmbbaaRSame
namespace Go.Proofs.Ytldnlbcibmmbbaa
open Go.RowKit

theorem elem_pattern (w : World) : ElemPat 45 [] patRight w := fun x k s l v W _ ho he hr => pattern_any x k s l v W ho he hr
theorem elem_cond (w : World) : ElemCnd 47 [] cndRight w := fun x W _ ho => cond_any x W ho
theorem elem_told (w : World) : ElemOpd 49 [] tldRight w := fun x W _ ho => told_any x W ho

set_option maxRecDepth 100000 in
set_option maxHeartbeats 8000000 in
theorem treeRight_any (q : Qry) (cx : List Value) (w : World) (hx : RdQry w q cx) (ho : q.ok) : Calls Try.prog 16 #[.agg cx.toArray] w (Ret w (.bool (qryRight q))) := by
 obtain ⟨v1, v2, v3, r1, r2, r3, rfl⟩ := hx
 obtain ⟨o1, o2, o3⟩ := ho
 have H1 := Lib.hid (fun W => between_any (q.pats.length : Nat) 1 4 W)
 have H2 := Lib.hid (fun W => between_any (q.ret.length : Nat) 1 4 W)
 have H3 := Lib.hid (fun W => between_any q.range 1 1048576 W)
 have H4 := Lib.hid (fun W => between_any q.slide 1 1048576 W)
 have HP := Lib.hid (fun W (hb : Below w.heap.size w W) => everyPat 45 patRight q.pats v1 W (rdPats_below hb r1) o1 (elem_pattern W) (enters_of Try.func45 (by kernel_rfl) rfl))
 have HC := Lib.hid (fun W (hb : Below w.heap.size w W) => everyCnd 47 cndRight q.conds v2 W (r2.below hb) o2 (elem_cond W) (enters_of Try.func47 (by kernel_rfl) rfl))
 have HR := Lib.hid (fun W (hb : Below w.heap.size w W) => everyOpd 49 tldRight q.ret v3 W (r3.below hb) o3 (elem_told W) (enters_of Try.func49 (by kernel_rfl) rfl))
 have HB := Lib.hid (fun ob => ((Below.refl w.heap.size w).alloc (Nat.le_refl _) ob))
 obtain ⟨p1, k1, rfl, l1, m1⟩ := r1.shape
 obtain ⟨p2, k2, rfl, l2, m2⟩ := r2.shape
 obtain ⟨p3, k3, rfl, l3, m3⟩ := r3.shape
 unfold maxLen at m1 m2 m3
 clear r1 r2 r3 o1 o2 o3
 cases g1 : betw (q.pats.length : Nat) 1 4
 ·rw [g1] at H1
  have hfin : qryRight q = false := by simp [qryRight, g1]
  rw [hfin]; clear hfin H2 H3 H4 HP HC HR g1
  go_enter Try.func16, Try.ntmps16
  go_wp2_with fail
  refine (H1.out _).mono ?_
  rintro e w' ⟨rfl, rfl⟩
  go_wp2_with fail
  go_ret
  exact ret_b rfl rfl (HB.out _)
 ·rw [g1] at H1
  by_cases g2 : q.conds.length ≤ 6
  ·cases g3 : betw (q.ret.length : Nat) 1 4
   ·rw [g3] at H2
    have hfin : qryRight q = false := by simp [qryRight, g1, g2, g3]
    rw [hfin]; clear hfin H3 H4 HP HC HR g1 g3
    go_enter Try.func16, Try.ntmps16
    go_wp2_with fail
    refine (H1.out _).mono ?_
    rintro e w' ⟨rfl, rfl⟩
    go_wp2_with fail
    refine (H2.out _).mono ?_
    rintro e w' ⟨rfl, rfl⟩
    go_wp2_with fail
    go_ret
    exact ret_b rfl rfl (HB.out _)
   ·rw [g3] at H2
    cases g4 : betw q.range 1 1048576
    ·rw [g4] at H3
     have hfin : qryRight q = false := by simp [qryRight, g1, g2, g3, g4]
     rw [hfin]; clear hfin H4 HP HC HR g1 g3 g4
     go_enter Try.func16, Try.ntmps16
     go_wp2_with fail
     refine (H1.out _).mono ?_
     rintro e w' ⟨rfl, rfl⟩
     go_wp2_with fail
     refine (H2.out _).mono ?_
     rintro e w' ⟨rfl, rfl⟩
     go_wp2_with fail
     refine (H3.out _).mono ?_
     rintro e w' ⟨rfl, rfl⟩
     go_wp2_with fail
     go_ret
     exact ret_b rfl rfl (HB.out _)
    ·rw [g4] at H3
     cases g5 : betw q.slide 1 1048576
     ·rw [g5] at H4
      have hfin : qryRight q = false := by simp [qryRight, g1, g2, g3, g4, g5]
      rw [hfin]; clear hfin HP HC HR g1 g3 g4 g5
      go_enter Try.func16, Try.ntmps16
      go_wp2_with fail
      refine (H1.out _).mono ?_
      rintro e w' ⟨rfl, rfl⟩
      go_wp2_with fail
      refine (H2.out _).mono ?_
      rintro e w' ⟨rfl, rfl⟩
      go_wp2_with fail
      refine (H3.out _).mono ?_
      rintro e w' ⟨rfl, rfl⟩
      go_wp2_with fail
      refine (H4.out _).mono ?_
      rintro e w' ⟨rfl, rfl⟩
      go_wp2_with fail
      go_ret
      exact ret_b rfl rfl (HB.out _)
     ·rw [g5] at H4
      cases g6 : q.pats.all patRight
      ·rw [g6] at HP
       have hfin : qryRight q = false := by simp only [qryRight, g1, g3, g4, g5, g6, decide_eq_true g2, Bool.and_true, Bool.and_false, Bool.false_and]
       rw [hfin]; clear hfin HC HR g1 g3 g4 g5 g6
       go_enter Try.func16, Try.ntmps16
       go_wp2_with fail
       refine (H1.out _).mono ?_
       rintro e w' ⟨rfl, rfl⟩
       go_wp2_with fail
       refine (H2.out _).mono ?_
       rintro e w' ⟨rfl, rfl⟩
       go_wp2_with fail
       refine (H3.out _).mono ?_
       rintro e w' ⟨rfl, rfl⟩
       go_wp2_with fail
       refine (H4.out _).mono ?_
       rintro e w' ⟨rfl, rfl⟩
       go_wp2_with fail
       refine (HP.out _ (HB.out _)).mono ?_
       rintro e w1 ⟨rfl, hb1⟩
       obtain ⟨hc1, hf1⟩ := bcell hb1
       have hz1x0 : w.heap.size < w1.heap.size := by have := hb1.size; first | omega | (simp at this; omega)
       go_wp2_with fail
       go_ret
       exact ret_b rfl rfl (below_step (HB.out _) hb1)
      ·rw [g6] at HP
       cases g7 : q.conds.all cndRight
       ·rw [g7] at HC
        have hfin : qryRight q = false := by simp only [qryRight, g1, g3, g4, g5, g6, g7, decide_eq_true g2, Bool.and_true, Bool.and_false, Bool.false_and]
        rw [hfin]; clear hfin HR g1 g3 g4 g5 g6 g7
        go_enter Try.func16, Try.ntmps16
        go_wp2_with fail
        refine (H1.out _).mono ?_
        rintro e w' ⟨rfl, rfl⟩
        go_wp2_with fail
        refine (H2.out _).mono ?_
        rintro e w' ⟨rfl, rfl⟩
        go_wp2_with fail
        refine (H3.out _).mono ?_
        rintro e w' ⟨rfl, rfl⟩
        go_wp2_with fail
        refine (H4.out _).mono ?_
        rintro e w' ⟨rfl, rfl⟩
        go_wp2_with fail
        refine (HP.out _ (HB.out _)).mono ?_
        rintro e w1 ⟨rfl, hb1⟩
        obtain ⟨hc1, hf1⟩ := bcell hb1
        have hz1x0 : w.heap.size < w1.heap.size := by have := hb1.size; first | omega | (simp at this; omega)
        go_wp2_with fail
        refine (HC.out _ (below_step (HB.out _) hb1)).mono ?_
        rintro e w2 ⟨rfl, hb2⟩
        obtain ⟨hc2, hf2⟩ := bcell hb2
        have hz2x0 : w.heap.size < w2.heap.size := by have := hb2.size; first | omega | (simp at this; omega)
        go_wp2_with fail
        go_ret
        exact ret_b rfl rfl (below_step (below_step (HB.out _) hb1) hb2)
       ·rw [g7] at HC
        have hfin : qryRight q = q.ret.all tldRight := by simp only [qryRight, g1, g3, g4, g5, g6, g7, decide_eq_true g2, Bool.and_true, Bool.true_and]
        rw [hfin]; clear hfin g1 g3 g4 g5 g6 g7
        go_enter Try.func16, Try.ntmps16
        go_wp2_with fail
        refine (H1.out _).mono ?_
        rintro e w' ⟨rfl, rfl⟩
        go_wp2_with fail
        refine (H2.out _).mono ?_
        rintro e w' ⟨rfl, rfl⟩
        go_wp2_with fail
        refine (H3.out _).mono ?_
        rintro e w' ⟨rfl, rfl⟩
        go_wp2_with fail
        refine (H4.out _).mono ?_
        rintro e w' ⟨rfl, rfl⟩
        go_wp2_with fail
        refine (HP.out _ (HB.out _)).mono ?_
        rintro e w1 ⟨rfl, hb1⟩
        obtain ⟨hc1, hf1⟩ := bcell hb1
        have hz1x0 : w.heap.size < w1.heap.size := by have := hb1.size; first | omega | (simp at this; omega)
        go_wp2_with fail
        refine (HC.out _ (below_step (HB.out _) hb1)).mono ?_
        rintro e w2 ⟨rfl, hb2⟩
        obtain ⟨hc2, hf2⟩ := bcell hb2
        have hz2x0 : w.heap.size < w2.heap.size := by have := hb2.size; first | omega | (simp at this; omega)
        go_wp2_with fail
        refine (HR.out _ (below_step (below_step (HB.out _) hb1) hb2)).mono ?_
        rintro e w3 ⟨rfl, hb3⟩
        obtain ⟨hc3, hf3⟩ := bcell hb3
        have hz3x0 : w.heap.size < w3.heap.size := by have := hb3.size; first | omega | (simp at this; omega)
        go_wp2_with fail
        go_ret
        exact ret_b rfl rfl (below_step (below_step (below_step (HB.out _) hb1) hb2) hb3)
  ·have hfin : qryRight q = false := by simp [qryRight, g1, g2]
   rw [hfin]; clear hfin H2 H3 H4 HP HC HR g1
   go_enter Try.func16, Try.ntmps16
   go_wp2_with fail
   refine (H1.out _).mono ?_
   rintro e w' ⟨rfl, rfl⟩
   go_wp2_with fail
   go_ret
   exact ret_b rfl rfl (HB.out _)

end Go.Proofs.Ytldnlbcibmmbbaa

set_option linter.unusedSimpArgs false
set_option linter.unusedVariables false
namespace Go.Proofs.Ytldnlbcibmmbbaa
open Go.RowKit

end Go.Proofs.Ytldnlbcibmmbbaa
