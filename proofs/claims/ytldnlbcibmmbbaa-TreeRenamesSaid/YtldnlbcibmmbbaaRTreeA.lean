/- tree.between, tree.Operand -/
import Derived.Test.YtldnlbcibmmbbaaRValue
import Derived.Test.YtldnlbcibmmbbaaRFlat
namespace Go.Proofs.Ytldnlbcibmmbbaa
open Go.RowKit

set_option maxHeartbeats 400000 in
theorem between_any (n a b : Int) (w : World) : Calls Try.prog 43 #[.int .i64 n, .int .i64 a, .int .i64 b] w (RetS w (.bool (betw n a b))) := by
 unfold betw
 by_cases h1 : a ≤ n
 ·rw [decide_eq_true h1, Bool.true_and]
  go_enter Try.func43, Try.ntmps43
  go_wp2_with fail
  go_ret
  exact rets_b rfl rfl
 ·rw [decide_eq_false h1, Bool.false_and]
  go_enter Try.func43, Try.ntmps43
  go_wp2_with fail
  go_ret
  exact rets_b rfl rfl

theorem eqb_want1 (o : Opd) : o.eqb ⟨o.kind, o.name, ⟨#[]⟩, ⟨0, 0, ⟨#[]⟩⟩⟩ = (noB o.key && o.val.none) := by
 simp [Opd.eqb, Val.eqb, Val.none, isEmpty_noB, Bool.and_assoc]
theorem eqb_want2 (o : Opd) : o.eqb ⟨o.kind, o.name, o.key, ⟨0, 0, ⟨#[]⟩⟩⟩ = o.val.none := by
 simp [Opd.eqb, Val.eqb, Val.none, isEmpty_noB, Bool.and_assoc]
theorem eqb_want3 (o : Opd) : o.eqb ⟨o.kind, ⟨#[]⟩, ⟨#[]⟩, o.val⟩ = (noB o.name && noB o.key) := by
 simp [Opd.eqb, Val.eqb, isEmpty_noB]

set_option maxRecDepth 100000 in
set_option maxHeartbeats 4000000 in
theorem operand_any (o : Opd) (w : World) (ho : o.ok) : Calls Try.prog 73 #[.agg #[.int .i64 o.kind, .string o.name, .string o.key, .int .i64 o.val.kind, .int .i64 o.val.num, .string o.val.text]] w (Ret w (.bool (opdRight o))) := by
 have H1 := Lib.hid (fun W => free_any o.name W ho.1.len)
 have H2 := Lib.hid (fun W => free_any o.key W ho.2.1.len)
 have H3 := Lib.hid (fun W => valRight_any o.val W ho.2.2.len)
 have HB := Lib.hid (fun ob => ((Below.refl w.heap.size w).alloc (Nat.le_refl _) ob))
 have q1 := fun w => eql_opd o ⟨o.kind, o.name, ⟨#[]⟩, ⟨0, 0, ⟨#[]⟩⟩⟩ w
 have q2 := fun w => eql_opd o ⟨o.kind, o.name, o.key, ⟨0, 0, ⟨#[]⟩⟩⟩ w
 have q3 := fun w => eql_opd o ⟨o.kind, ⟨#[]⟩, ⟨#[]⟩, o.val⟩ w
 rw [eqb_want1] at q1
 rw [eqb_want2] at q2
 rw [eqb_want3] at q3
 simp only at q1 q2 q3
 clear ho
 cases k1 : o.kind == 1
 ·cases k2 : o.kind == 2
  ·cases k3 : o.kind == 3
   ·have hfin : opdRight o = false := by simp [opdRight, k1, k2, k3]
    rw [hfin]; clear hfin H2 H3 q1 q2 q3
    go_enter Try.func73, Try.ntmps73
    go_wp2_with fail
    refine (H1.out _).mono ?_
    rintro e w1 ⟨rfl, hb1⟩
    obtain ⟨hc1, hf1⟩ := bcell hb1
    have hz1x0 : w.heap.size < w1.heap.size := by have := hb1.size; first | omega | (simp at this; omega)
    go_wp2_with fail
    go_ret
    exact ret_b rfl rfl (below_alloc (below_step (HB.out _) hb1) _)
   ·cases g1 : valRight o.val
    ·rw [g1] at H3
     have hfin : opdRight o = false := by simp [opdRight, k1, k2, k3, g1]
     rw [hfin]; clear hfin H2 q1 q2 q3 g1
     go_enter Try.func73, Try.ntmps73
     go_wp2_with fail
     refine (H1.out _).mono ?_
     rintro e w1 ⟨rfl, hb1⟩
     obtain ⟨hc1, hf1⟩ := bcell hb1
     have hz1x0 : w.heap.size < w1.heap.size := by have := hb1.size; first | omega | (simp at this; omega)
     go_wp2_with fail
     refine (H3.out _).mono ?_
     rintro e w2 ⟨rfl, hb2⟩
     obtain ⟨hc2, hf2⟩ := bcell hb2
     have hz2x0 : w.heap.size < w2.heap.size := by have := hb2.size; first | omega | (simp at this; omega)
     have hz2x1 : w1.heap.size < w2.heap.size := by have := hb2.size; first | omega | (simp at this; omega)
     go_wp2_with fail
     go_ret
     exact ret_b rfl rfl (below_step (below_alloc (below_step (HB.out _) hb1) _) hb2)
    ·rw [g1] at H3
     have hfin : opdRight o = (noB o.name && noB o.key) := by simp [opdRight, k1, k2, k3, g1]
     rw [hfin]; clear hfin H2 q1 q2 g1
     go_enter Try.func73, Try.ntmps73
     go_wp2_with fail
     refine (H1.out _).mono ?_
     rintro e w1 ⟨rfl, hb1⟩
     obtain ⟨hc1, hf1⟩ := bcell hb1
     have hz1x0 : w.heap.size < w1.heap.size := by have := hb1.size; first | omega | (simp at this; omega)
     go_wp2_with fail
     refine (H3.out _).mono ?_
     rintro e w2 ⟨rfl, hb2⟩
     obtain ⟨hc2, hf2⟩ := bcell hb2
     have hz2x0 : w.heap.size < w2.heap.size := by have := hb2.size; first | omega | (simp at this; omega)
     have hz2x1 : w1.heap.size < w2.heap.size := by have := hb2.size; first | omega | (simp at this; omega)
     go_wp2_with fail
     go_ret
     exact ret_b rfl rfl (below_step (below_alloc (below_step (HB.out _) hb1) _) hb2)
  ·cases g1 : freeB o.name
   ·rw [g1] at H1
    have hfin : opdRight o = false := by simp [opdRight, k1, k2, g1]
    rw [hfin]; clear hfin H2 H3 q1 q2 q3 g1
    go_enter Try.func73, Try.ntmps73
    go_wp2_with fail
    refine (H1.out _).mono ?_
    rintro e w1 ⟨rfl, hb1⟩
    obtain ⟨hc1, hf1⟩ := bcell hb1
    have hz1x0 : w.heap.size < w1.heap.size := by have := hb1.size; first | omega | (simp at this; omega)
    go_wp2_with fail
    go_region
    go_wp2_with fail
    go_ret
    exact ret_b rfl rfl (below_drew' (below_alloc (below_step (HB.out _) hb1) _))
   ·cases g2 : freeB o.key
    ·rw [g1] at H1
     rw [g2] at H2
     have hfin : opdRight o = false := by simp [opdRight, k1, k2, g1, g2]
     rw [hfin]; clear hfin H3 q1 q2 q3 g1 g2
     go_enter Try.func73, Try.ntmps73
     go_wp2_with fail
     refine (H1.out _).mono ?_
     rintro e w1 ⟨rfl, hb1⟩
     obtain ⟨hc1, hf1⟩ := bcell hb1
     have hz1x0 : w.heap.size < w1.heap.size := by have := hb1.size; first | omega | (simp at this; omega)
     go_wp2_with fail
     go_region
     go_wp2_with fail
     refine (H2.out _).mono ?_
     rintro e w2 ⟨rfl, hb2⟩
     obtain ⟨hc2, hf2⟩ := bcell hb2
     have hz2x0 : w.heap.size < w2.heap.size := by have := hb2.size; first | omega | (simp at this; omega)
     have hz2x1 : w1.heap.size < w2.heap.size := by have := hb2.size; first | omega | (simp at this; omega)
     go_wp2_with fail
     go_ret
     exact ret_b rfl rfl (below_step (below_drew' (below_alloc (below_step (HB.out _) hb1) _)) hb2)
    ·rw [g1] at H1
     rw [g2] at H2
     have hfin : opdRight o = o.val.none := by simp [opdRight, k1, k2, g1, g2]
     rw [hfin]; clear hfin H3 q1 q3 g1 g2
     go_enter Try.func73, Try.ntmps73
     go_wp2_with fail
     refine (H1.out _).mono ?_
     rintro e w1 ⟨rfl, hb1⟩
     obtain ⟨hc1, hf1⟩ := bcell hb1
     have hz1x0 : w.heap.size < w1.heap.size := by have := hb1.size; first | omega | (simp at this; omega)
     go_wp2_with fail
     go_region
     go_wp2_with fail
     refine (H2.out _).mono ?_
     rintro e w2 ⟨rfl, hb2⟩
     obtain ⟨hc2, hf2⟩ := bcell hb2
     have hz2x0 : w.heap.size < w2.heap.size := by have := hb2.size; first | omega | (simp at this; omega)
     have hz2x1 : w1.heap.size < w2.heap.size := by have := hb2.size; first | omega | (simp at this; omega)
     go_wp2_with fail
     go_ret
     exact ret_b rfl rfl (below_step (below_drew' (below_alloc (below_step (HB.out _) hb1) _)) hb2)
 ·cases g1 : freeB o.name
  ·rw [g1] at H1
   have hfin : opdRight o = false := by simp [opdRight, k1, g1]
   rw [hfin]; clear hfin H2 H3 q1 q2 q3 g1
   go_enter Try.func73, Try.ntmps73
   go_wp2_with fail
   refine (H1.out _).mono ?_
   rintro e w1 ⟨rfl, hb1⟩
   obtain ⟨hc1, hf1⟩ := bcell hb1
   have hz1x0 : w.heap.size < w1.heap.size := by have := hb1.size; first | omega | (simp at this; omega)
   go_wp2_with fail
   go_ret
   exact ret_b rfl rfl (below_alloc (below_step (HB.out _) hb1) _)
  ·rw [g1] at H1
   have hfin : opdRight o = (noB o.key && o.val.none) := by simp [opdRight, k1, g1]
   rw [hfin]; clear hfin H2 H3 q2 q3 g1
   go_enter Try.func73, Try.ntmps73
   go_wp2_with fail
   refine (H1.out _).mono ?_
   rintro e w1 ⟨rfl, hb1⟩
   obtain ⟨hc1, hf1⟩ := bcell hb1
   have hz1x0 : w.heap.size < w1.heap.size := by have := hb1.size; first | omega | (simp at this; omega)
   go_wp2_with fail
   go_ret
   exact ret_b rfl rfl (below_alloc (below_step (HB.out _) hb1) _)

end Go.Proofs.Ytldnlbcibmmbbaa
