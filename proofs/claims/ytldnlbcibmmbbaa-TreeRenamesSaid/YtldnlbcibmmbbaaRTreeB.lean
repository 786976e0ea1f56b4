/- tree.pattern, tree.cond, tree.told -/
import Derived.Test.YtldnlbcibmmbbaaRTreeA
import Derived.Test.YtldnlbcibmmbbaaRExprA
import Derived.Test.YtldnlbcibmmbbaaRSame
namespace Go.Proofs.Ytldnlbcibmmbbaa
open Go.RowKit

theorem cat_no (a b : ByteArray) : (a ++ b).toList.isEmpty = (noB a && noB b) := by
 rw [toList_isEmpty, noB, noB, ByteArray.size_append]
 by_cases h1 : a.size = 0 <;> by_cases h2 : b.size = 0 <;> simp [h1, h2]

set_option maxRecDepth 100000 in
set_option maxHeartbeats 8000000 in
theorem pattern_any (p : Pat) (k : Int) (s : ByteArray) (l : List Ex) (v : Value) (w : World) (ho : p.ok) (he : p.expr = .mk k s l) (hr : RdExs w l v) :
  Calls Try.prog 45 #[.agg #[.string p.frm, .string p.to, .bool p.path, .string p.label, .string p.name, .int .i64 k, .string s, v]] w (Ret w (.bool (patRight p))) := by
 obtain ⟨pv, cv, rfl, -, -⟩ := hr.shape
 obtain ⟨o1, o2, o3, o4, o5⟩ := ho
 have HF := Lib.hid (fun W => free_any p.frm W o1.len)
 have HT := Lib.hid (fun W => free_any p.to W o2.len)
 have HL := Lib.hid (fun W => free_any p.label W o3.len)
 have HN := Lib.hid (fun W => free_any p.name W o4.len)
 have HX := Lib.hid (fun W (hb : Below w.heap.size w W) => xRight_any p.expr [.int .i64 k, .string s, .slice pv l.length cv] W (by rw [he, RdEx]; exact ⟨_, rfl, hr.below hb⟩) o5)
 have HS := Lib.hid (fun W (hb : Below w.heap.size w W) => xSame_any p.expr (.mk 0 ⟨#[]⟩ []) [.int .i64 k, .string s, .slice pv l.length cv] [.int .i64 0, .string ⟨#[]⟩, .slice none 0 0] W (by rw [he, RdEx]; exact ⟨_, rfl, hr.below hb⟩) (by rw [RdEx]; exact ⟨_, rfl, by rw [RdExs]; exact .inl (.inl rfl)⟩))
 have HB := Lib.hid (fun ob => ((Below.refl w.heap.size w).alloc (Nat.le_refl _) ob))
 have hsum : p.label.size + p.name.size ≤ 9223372036854775807 := by unfold okT at o3 o4; omega
 have hcat := cat_no p.label p.name
 have hnn := isEmpty_noB p.name
 have HSUM := Lib.hid hsum; have HCAT := Lib.hid hcat; have HNN := Lib.hid hnn
 clear o1 o2 o3 o4 o5 he hr hsum hcat hnn
 cases g1 : freeB p.frm
 ·rw [g1] at HF
  have hfin : patRight p = false := by simp [patRight, g1]
  rw [hfin]; clear hfin HT HL HN HX HS g1
  go_enter Try.func45, Try.ntmps45
  go_wp2_with fail
  refine (HF.out _).mono ?_
  rintro e w1 ⟨rfl, hb1⟩
  obtain ⟨hc1, hf1⟩ := bcell hb1
  have hz1x0 : w.heap.size < w1.heap.size := by have := hb1.size; first | omega | (simp at this; omega)
  go_wp2_with fail
  go_ret
  exact ret_b rfl rfl (below_step (HB.out _) hb1)
 ·rw [g1] at HF
  cases g2 : freeB p.to
  ·rw [g2] at HT
   have hfin : patRight p = false := by simp [patRight, g1, g2]
   rw [hfin]; clear hfin HL HN HX HS g1 g2
   go_enter Try.func45, Try.ntmps45
   go_wp2_with fail
   refine (HF.out _).mono ?_
   rintro e w1 ⟨rfl, hb1⟩
   obtain ⟨hc1, hf1⟩ := bcell hb1
   have hz1x0 : w.heap.size < w1.heap.size := by have := hb1.size; first | omega | (simp at this; omega)
   go_wp2_with fail
   refine (HT.out _).mono ?_
   rintro e w2 ⟨rfl, hb2⟩
   obtain ⟨hc2, hf2⟩ := bcell hb2
   have hz2x0 : w.heap.size < w2.heap.size := by have := hb2.size; first | omega | (simp at this; omega)
   go_wp2_with fail
   go_ret
   exact ret_b rfl rfl (below_step (below_step (HB.out _) hb1) hb2)
  ·rw [g2] at HT
   cases g3 : p.path
   ·cases g4 : freeB p.label
    ·rw [g4] at HL
     have hfin : patRight p = false := by simp [patRight, g1, g2, g3, g4]
     rw [hfin]; clear hfin HN HX HS g1 g2 g4
     go_enter Try.func45, Try.ntmps45
     go_wp2_with fail
     refine (HF.out _).mono ?_
     rintro e w1 ⟨rfl, hb1⟩
     obtain ⟨hc1, hf1⟩ := bcell hb1
     have hz1x0 : w.heap.size < w1.heap.size := by have := hb1.size; first | omega | (simp at this; omega)
     go_wp2_with fail
     refine (HT.out _).mono ?_
     rintro e w2 ⟨rfl, hb2⟩
     obtain ⟨hc2, hf2⟩ := bcell hb2
     have hz2x0 : w.heap.size < w2.heap.size := by have := hb2.size; first | omega | (simp at this; omega)
     go_wp2_with fail
     refine (HL.out _).mono ?_
     rintro e w3 ⟨rfl, hb3⟩
     obtain ⟨hc3, hf3⟩ := bcell hb3
     have hz3x0 : w.heap.size < w3.heap.size := by have := hb3.size; first | omega | (simp at this; omega)
     go_wp2_with fail
     go_ret
     exact ret_b rfl rfl (below_step (below_step (below_step (HB.out _) hb1) hb2) hb3)
    ·rw [g4] at HL
     cases g5 : noB p.name
     ·have hnn := HNN.out
      rw [g5] at hnn
      cases g6 : freeB p.name
      ·rw [g6] at HN
       have hfin : patRight p = false := by simp [patRight, g1, g2, g3, g4, g5, g6]
       rw [hfin]; clear hfin HX HS g1 g2 g4 g5 g6
       go_enter Try.func45, Try.ntmps45
       go_wp2_with fail
       refine (HF.out _).mono ?_
       rintro e w1 ⟨rfl, hb1⟩
       obtain ⟨hc1, hf1⟩ := bcell hb1
       have hz1x0 : w.heap.size < w1.heap.size := by have := hb1.size; first | omega | (simp at this; omega)
       go_wp2_with fail
       refine (HT.out _).mono ?_
       rintro e w2 ⟨rfl, hb2⟩
       obtain ⟨hc2, hf2⟩ := bcell hb2
       have hz2x0 : w.heap.size < w2.heap.size := by have := hb2.size; first | omega | (simp at this; omega)
       go_wp2_with fail
       refine (HL.out _).mono ?_
       rintro e w3 ⟨rfl, hb3⟩
       obtain ⟨hc3, hf3⟩ := bcell hb3
       have hz3x0 : w.heap.size < w3.heap.size := by have := hb3.size; first | omega | (simp at this; omega)
       go_wp2_with fail
       refine (HN.out _).mono ?_
       rintro e w4 ⟨rfl, hb4⟩
       obtain ⟨hc4, hf4⟩ := bcell hb4
       have hz4x0 : w.heap.size < w4.heap.size := by have := hb4.size; first | omega | (simp at this; omega)
       go_wp2_with fail
       go_ret
       exact ret_b rfl rfl (below_step (below_step (below_step (below_step (HB.out _) hb1) hb2) hb3) hb4)
      ·rw [g6] at HN
       have hfin : patRight p = exSame p.expr (.mk 0 ⟨#[]⟩ []) := by simp [patRight, g1, g2, g3, g4, g5, g6]
       rw [hfin]; clear hfin HX g1 g2 g4 g5 g6
       go_enter Try.func45, Try.ntmps45
       go_wp2_with fail
       refine (HF.out _).mono ?_
       rintro e w1 ⟨rfl, hb1⟩
       obtain ⟨hc1, hf1⟩ := bcell hb1
       have hz1x0 : w.heap.size < w1.heap.size := by have := hb1.size; first | omega | (simp at this; omega)
       go_wp2_with fail
       refine (HT.out _).mono ?_
       rintro e w2 ⟨rfl, hb2⟩
       obtain ⟨hc2, hf2⟩ := bcell hb2
       have hz2x0 : w.heap.size < w2.heap.size := by have := hb2.size; first | omega | (simp at this; omega)
       go_wp2_with fail
       refine (HL.out _).mono ?_
       rintro e w3 ⟨rfl, hb3⟩
       obtain ⟨hc3, hf3⟩ := bcell hb3
       have hz3x0 : w.heap.size < w3.heap.size := by have := hb3.size; first | omega | (simp at this; omega)
       go_wp2_with fail
       refine (HN.out _).mono ?_
       rintro e w4 ⟨rfl, hb4⟩
       obtain ⟨hc4, hf4⟩ := bcell hb4
       have hz4x0 : w.heap.size < w4.heap.size := by have := hb4.size; first | omega | (simp at this; omega)
       go_wp2_with fail
       refine (HS.out _ (below_step (below_step (below_step (below_step (HB.out _) hb1) hb2) hb3) hb4)).mono ?_
       rintro e w5 ⟨rfl, hb5⟩
       obtain ⟨hc5, hf5⟩ := bcell hb5
       have hz5x0 : w.heap.size < w5.heap.size := by have := hb5.size; first | omega | (simp at this; omega)
       go_wp2_with fail
       go_ret
       exact ret_b rfl rfl (below_step (below_step (below_step (below_step (below_step (HB.out _) hb1) hb2) hb3) hb4) hb5)
     ·have hnn := HNN.out
      rw [g5] at hnn
      have hfin : patRight p = exSame p.expr (.mk 0 ⟨#[]⟩ []) := by simp [patRight, g1, g2, g3, g4, g5]
      rw [hfin]; clear hfin HX HN g1 g2 g4 g5
      go_enter Try.func45, Try.ntmps45
      go_wp2_with fail
      refine (HF.out _).mono ?_
      rintro e w1 ⟨rfl, hb1⟩
      obtain ⟨hc1, hf1⟩ := bcell hb1
      have hz1x0 : w.heap.size < w1.heap.size := by have := hb1.size; first | omega | (simp at this; omega)
      go_wp2_with fail
      refine (HT.out _).mono ?_
      rintro e w2 ⟨rfl, hb2⟩
      obtain ⟨hc2, hf2⟩ := bcell hb2
      have hz2x0 : w.heap.size < w2.heap.size := by have := hb2.size; first | omega | (simp at this; omega)
      go_wp2_with fail
      refine (HL.out _).mono ?_
      rintro e w3 ⟨rfl, hb3⟩
      obtain ⟨hc3, hf3⟩ := bcell hb3
      have hz3x0 : w.heap.size < w3.heap.size := by have := hb3.size; first | omega | (simp at this; omega)
      go_wp2_with fail
      refine (HS.out _ (below_step (below_step (below_step (HB.out _) hb1) hb2) hb3)).mono ?_
      rintro e w4 ⟨rfl, hb4⟩
      obtain ⟨hc4, hf4⟩ := bcell hb4
      have hz4x0 : w.heap.size < w4.heap.size := by have := hb4.size; first | omega | (simp at this; omega)
      go_wp2_with fail
      go_ret
      exact ret_b rfl rfl (below_step (below_step (below_step (below_step (HB.out _) hb1) hb2) hb3) hb4)
   ·have hsum := HSUM.out
    have hcat := HCAT.out
    cases g4 : noB p.label && noB p.name
    ·rw [g4] at hcat
     have hfin : patRight p = false := by simp [patRight, g1, g2, g3, g4]
     rw [hfin]; clear hfin HL HN HX HS g1 g2 g4
     go_enter Try.func45, Try.ntmps45
     go_wp2_with fail
     refine (HF.out _).mono ?_
     rintro e w1 ⟨rfl, hb1⟩
     obtain ⟨hc1, hf1⟩ := bcell hb1
     have hz1x0 : w.heap.size < w1.heap.size := by have := hb1.size; first | omega | (simp at this; omega)
     go_wp2_with fail
     refine (HT.out _).mono ?_
     rintro e w2 ⟨rfl, hb2⟩
     obtain ⟨hc2, hf2⟩ := bcell hb2
     have hz2x0 : w.heap.size < w2.heap.size := by have := hb2.size; first | omega | (simp at this; omega)
     go_wp2_with fail
     go_ret
     exact ret_b rfl rfl (below_step (below_step (HB.out _) hb1) hb2)
    ·rw [g4] at hcat
     have hfin : patRight p = exRight p.expr := by simp [patRight, g1, g2, g3, g4]
     rw [hfin]; clear hfin HL HN HS g1 g2 g4
     go_enter Try.func45, Try.ntmps45
     go_wp2_with fail
     refine (HF.out _).mono ?_
     rintro e w1 ⟨rfl, hb1⟩
     obtain ⟨hc1, hf1⟩ := bcell hb1
     have hz1x0 : w.heap.size < w1.heap.size := by have := hb1.size; first | omega | (simp at this; omega)
     go_wp2_with fail
     refine (HT.out _).mono ?_
     rintro e w2 ⟨rfl, hb2⟩
     obtain ⟨hc2, hf2⟩ := bcell hb2
     have hz2x0 : w.heap.size < w2.heap.size := by have := hb2.size; first | omega | (simp at this; omega)
     go_wp2_with fail
     refine (HX.out _ (below_step (below_step (HB.out _) hb1) hb2)).mono ?_
     rintro e w3 ⟨rfl, hb3⟩
     obtain ⟨hc3, hf3⟩ := bcell hb3
     have hz3x0 : w.heap.size < w3.heap.size := by have := hb3.size; first | omega | (simp at this; omega)
     go_wp2_with fail
     go_ret
     exact ret_b rfl rfl (below_step (below_step (below_step (HB.out _) hb1) hb2) hb3)

set_option maxRecDepth 100000 in
set_option maxHeartbeats 4000000 in
theorem cond_any (c : Cnd) (w : World) (ho : c.ok) : Calls Try.prog 47 #[.agg #[.int .i64 c.op, .int .i64 c.left.kind, .string c.left.name, .string c.left.key, .int .i64 c.left.val.kind, .int .i64 c.left.val.num, .string c.left.val.text, .int .i64 c.right.kind, .string c.right.name, .string c.right.key, .int .i64 c.right.val.kind, .int .i64 c.right.val.num, .string c.right.val.text]] w (Ret w (.bool (cndRight c))) := by
 have H0 := Lib.hid (fun W => between_any c.op 1 6 W)
 have H1 := Lib.hid (fun W => operand_any c.left W ho.1)
 have H2 := Lib.hid (fun W => operand_any c.right W ho.2)
 have HB := Lib.hid (fun ob => ((Below.refl w.heap.size w).alloc (Nat.le_refl _) ob))
 clear ho
 cases g0 : betw c.op 1 6
 ·rw [g0] at H0
  have hfin : cndRight c = false := by simp [cndRight, g0]
  rw [hfin]; clear hfin H1 H2 g0
  go_enter Try.func47, Try.ntmps47
  go_wp2_with fail
  refine (H0.out _).mono ?_
  rintro e w' ⟨rfl, rfl⟩
  go_wp2_with fail
  go_ret
  exact ret_b rfl rfl (HB.out _)
 ·rw [g0] at H0
  cases g1 : opdRight c.left
  ·rw [g1] at H1
   have hfin : cndRight c = false := by simp [cndRight, g0, g1]
   rw [hfin]; clear hfin H2 g0 g1
   go_enter Try.func47, Try.ntmps47
   go_wp2_with fail
   refine (H0.out _).mono ?_
   rintro e w' ⟨rfl, rfl⟩
   go_wp2_with fail
   refine (H1.out _).mono ?_
   rintro e w1 ⟨rfl, hb1⟩
   obtain ⟨hc1, hf1⟩ := bcell hb1
   have hz1x0 : w.heap.size < w1.heap.size := by have := hb1.size; first | omega | (simp at this; omega)
   go_wp2_with fail
   go_ret
   exact ret_b rfl rfl (below_step (HB.out _) hb1)
  ·rw [g1] at H1
   have hfin : cndRight c = opdRight c.right := by simp [cndRight, g0, g1]
   rw [hfin]; clear hfin g0 g1
   go_enter Try.func47, Try.ntmps47
   go_wp2_with fail
   refine (H0.out _).mono ?_
   rintro e w' ⟨rfl, rfl⟩
   go_wp2_with fail
   refine (H1.out _).mono ?_
   rintro e w1 ⟨rfl, hb1⟩
   obtain ⟨hc1, hf1⟩ := bcell hb1
   have hz1x0 : w.heap.size < w1.heap.size := by have := hb1.size; first | omega | (simp at this; omega)
   go_wp2_with fail
   refine (H2.out _).mono ?_
   rintro e w2 ⟨rfl, hb2⟩
   obtain ⟨hc2, hf2⟩ := bcell hb2
   have hz2x0 : w.heap.size < w2.heap.size := by have := hb2.size; first | omega | (simp at this; omega)
   go_wp2_with fail
   go_ret
   exact ret_b rfl rfl (below_step (below_step (HB.out _) hb1) hb2)

set_option maxRecDepth 100000 in
set_option maxHeartbeats 4000000 in
theorem told_any (o : Opd) (w : World) (ho : o.ok) : Calls Try.prog 49 #[.agg #[.int .i64 o.kind, .string o.name, .string o.key, .int .i64 o.val.kind, .int .i64 o.val.num, .string o.val.text]] w (Ret w (.bool (tldRight o))) := by
 have H1 := Lib.hid (fun W => operand_any o W ho)
 have HB := Lib.hid (fun ob => ((Below.refl w.heap.size w).alloc (Nat.le_refl _) ob))
 clear ho
 cases g0 : o.kind != 3
 ·have hfin : tldRight o = false := by simp only [tldRight, g0, Bool.false_and]
  rw [hfin]; clear hfin H1
  go_enter Try.func49, Try.ntmps49
  go_wp2_with fail
  go_ret
  exact ret_b rfl rfl (HB.out _)
 ·have hfin : tldRight o = opdRight o := by simp only [tldRight, g0, Bool.true_and]
  rw [hfin]; clear hfin
  go_enter Try.func49, Try.ntmps49
  go_wp2_with fail
  refine (H1.out _).mono ?_
  rintro e w1 ⟨rfl, hb1⟩
  obtain ⟨hc1, hf1⟩ := bcell hb1
  have hz1x0 : w.heap.size < w1.heap.size := by have := hb1.size; first | omega | (simp at this; omega)
  go_wp2_with fail
  go_ret
  exact ret_b rfl rfl (below_step (HB.out _) hb1)

end Go.Proofs.Ytldnlbcibmmbbaa
