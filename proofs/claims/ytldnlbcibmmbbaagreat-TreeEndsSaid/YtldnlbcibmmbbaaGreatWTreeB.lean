/- tree.between, tree.Operand -/
import Derived.Test.YtldnlbcibmmbbaaGreatWValue
import Derived.Test.YtldnlbcibmmbbaaGreatWFlat
import Derived.Test.YtldnlbcibmmbbaaGreatWExprA
import Derived.Test.YtldnlbcibmmbbaaGreatWSame
set_option linter.unusedSimpArgs false
set_option linter.unusedVariables false
open Nat renaming le_refl → IV
namespace Go.Proofs.YtldnlbcibmmbbaaGreat
open Go.RowKit
set_option maxHeartbeats 400000 in
theorem fS (n a b:Int) (w:World):Calls Tryz.prog 40 #[.int .i64 n, .int .i64 a, .int .i64 b] w (wC w (.bool (kr n a b))):=by
 unfold kr
 by_cases h1:a≤n
 ·rw [decide_eq_true h1,Bool.true_and]
  go_enter Tryz.func40,Tryz.ntmps40
  go_wp2_with fail
  go_ret
  exact kT rfl rfl
 ·rw [decide_eq_false h1,Bool.false_and]
  go_enter Tryz.func40,Tryz.ntmps40
  go_wp2_with fail
  go_ret
  exact kT rfl rfl
theorem y6 (o:cg):o.dm ⟨o.kind,o.name,⟨#[]⟩,⟨0,0,⟨#[]⟩⟩⟩=(eh o.key&&o.val.none):=by
 simp [cg.dm,iI.dm,iI.none,fL,Bool.and_assoc]
theorem y0 (o:cg):o.dm ⟨o.kind,o.name,o.key,⟨0,0,⟨#[]⟩⟩⟩=o.val.none:=by
 simp [cg.dm,iI.dm,iI.none,fL,Bool.and_assoc]
theorem zC (o:cg):o.dm ⟨o.kind,⟨#[]⟩,⟨#[]⟩,o.val⟩=(eh o.name&&eh o.key):=by
 simp [cg.dm,iI.dm,fL]
set_option maxRecDepth 100000 in
set_option maxHeartbeats 4000000 in
theorem gR (o:cg) (w:World) (ho:o.ok):Calls Tryz.prog 20 #[.agg #[.int .i64 o.kind, .string o.name, .string o.key, .int .i64 o.val.kind, .int .i64 o.val.num, .string o.val.text]] w (fU w (.bool (aP o))):=by
 have H1:=Lib.hid (fun W=>gD o.name W ho.1.len)
 have H2:=Lib.hid (fun W=>gD o.key W ho.2.1.len)
 have H3:=Lib.hid (fun W=>sR o.val W ho.2.2.len)
 have HB:=Lib.hid (fun ob=>((Below.refl w.heap.size w).alloc (IV _) ob))
 have q1:=fun w=>sV o ⟨o.kind,o.name,⟨#[]⟩,⟨0,0,⟨#[]⟩⟩⟩ w
 have q2:=fun w=>sV o ⟨o.kind,o.name,o.key,⟨0,0,⟨#[]⟩⟩⟩ w
 have q3:=fun w=>sV o ⟨o.kind,⟨#[]⟩,⟨#[]⟩,o.val⟩ w
 rw [y6] at q1
 rw [y0] at q2
 rw [zC] at q3
 simp only at q1 q2 q3
 clear ho
 cases k1:o.kind==1
 ·cases k2:o.kind==2
  ·cases k3:o.kind==3
   ·have hfin:aP o=false:=by simp [aP,k1,k2,k3]
    rw [hfin];clear hfin H2 H3 q1 q2 q3
    go_enter Tryz.func20,Tryz.ntmps20
    go_wp2_with fail
    refine (H1.out _).mono ?_
    rintro e w1 ⟨rfl,hb1⟩
    obtain ⟨hc1,hf1⟩:=az hb1
    have hz1x0:w.heap.size<w1.heap.size:=by have:=hb1.size;first|omega|(simp at this;omega)
    go_wp2_with fail
    go_ret
    exact aq rfl rfl (cS (aa (HB.out _) hb1) _)
   ·cases g1:aI o.val
    ·rw [g1] at H3
     have hfin:aP o=false:=by simp [aP,k1,k2,k3,g1]
     rw [hfin];clear hfin H2 q1 q2 q3 g1
     go_enter Tryz.func20,Tryz.ntmps20
     go_wp2_with fail
     refine (H1.out _).mono ?_
     rintro e w1 ⟨rfl,hb1⟩
     obtain ⟨hc1,hf1⟩:=az hb1
     have hz1x0:w.heap.size<w1.heap.size:=by have:=hb1.size;first|omega|(simp at this;omega)
     go_wp2_with fail
     refine (H3.out _).mono ?_
     rintro e w2 ⟨rfl,hb2⟩
     obtain ⟨hc2,hf2⟩:=az hb2
     have hz2x0:w.heap.size<w2.heap.size:=by have:=hb2.size;first|omega|(simp at this;omega)
     have hz2x1:w1.heap.size<w2.heap.size:=by have:=hb2.size;first|omega|(simp at this;omega)
     go_wp2_with fail
     go_ret
     exact aq rfl rfl (aa (cS (aa (HB.out _) hb1) _) hb2)
    ·rw [g1] at H3
     have hfin:aP o=(eh o.name&&eh o.key):=by simp [aP,k1,k2,k3,g1]
     rw [hfin];clear hfin H2 q1 q2 g1
     go_enter Tryz.func20,Tryz.ntmps20
     go_wp2_with fail
     refine (H1.out _).mono ?_
     rintro e w1 ⟨rfl,hb1⟩
     obtain ⟨hc1,hf1⟩:=az hb1
     have hz1x0:w.heap.size<w1.heap.size:=by have:=hb1.size;first|omega|(simp at this;omega)
     go_wp2_with fail
     refine (H3.out _).mono ?_
     rintro e w2 ⟨rfl,hb2⟩
     obtain ⟨hc2,hf2⟩:=az hb2
     have hz2x0:w.heap.size<w2.heap.size:=by have:=hb2.size;first|omega|(simp at this;omega)
     have hz2x1:w1.heap.size<w2.heap.size:=by have:=hb2.size;first|omega|(simp at this;omega)
     go_wp2_with fail
     go_ret
     exact aq rfl rfl (aa (cS (aa (HB.out _) hb1) _) hb2)
  ·cases g1:cz o.name
   ·rw [g1] at H1
    have hfin:aP o=false:=by simp [aP,k1,k2,g1]
    rw [hfin];clear hfin H2 H3 q1 q2 q3 g1
    go_enter Tryz.func20,Tryz.ntmps20
    go_wp2_with fail
    refine (H1.out _).mono ?_
    rintro e w1 ⟨rfl,hb1⟩
    obtain ⟨hc1,hf1⟩:=az hb1
    have hz1x0:w.heap.size<w1.heap.size:=by have:=hb1.size;first|omega|(simp at this;omega)
    go_wp2_with fail
    go_region
    go_wp2_with fail
    go_ret
    exact aq rfl rfl (jN (cS (aa (HB.out _) hb1) _))
   ·cases g2:cz o.key
    ·rw [g1] at H1
     rw [g2] at H2
     have hfin:aP o=false:=by simp [aP,k1,k2,g1,g2]
     rw [hfin];clear hfin H3 q1 q2 q3 g1 g2
     go_enter Tryz.func20,Tryz.ntmps20
     go_wp2_with fail
     refine (H1.out _).mono ?_
     rintro e w1 ⟨rfl,hb1⟩
     obtain ⟨hc1,hf1⟩:=az hb1
     have hz1x0:w.heap.size<w1.heap.size:=by have:=hb1.size;first|omega|(simp at this;omega)
     go_wp2_with fail
     go_region
     go_wp2_with fail
     refine (H2.out _).mono ?_
     rintro e w2 ⟨rfl,hb2⟩
     obtain ⟨hc2,hf2⟩:=az hb2
     have hz2x0:w.heap.size<w2.heap.size:=by have:=hb2.size;first|omega|(simp at this;omega)
     have hz2x1:w1.heap.size<w2.heap.size:=by have:=hb2.size;first|omega|(simp at this;omega)
     go_wp2_with fail
     go_ret
     exact aq rfl rfl (aa (jN (cS (aa (HB.out _) hb1) _)) hb2)
    ·rw [g1] at H1
     rw [g2] at H2
     have hfin:aP o=o.val.none:=by simp [aP,k1,k2,g1,g2]
     rw [hfin];clear hfin H3 q1 q3 g1 g2
     go_enter Tryz.func20,Tryz.ntmps20
     go_wp2_with fail
     refine (H1.out _).mono ?_
     rintro e w1 ⟨rfl,hb1⟩
     obtain ⟨hc1,hf1⟩:=az hb1
     have hz1x0:w.heap.size<w1.heap.size:=by have:=hb1.size;first|omega|(simp at this;omega)
     go_wp2_with fail
     go_region
     go_wp2_with fail
     refine (H2.out _).mono ?_
     rintro e w2 ⟨rfl,hb2⟩
     obtain ⟨hc2,hf2⟩:=az hb2
     have hz2x0:w.heap.size<w2.heap.size:=by have:=hb2.size;first|omega|(simp at this;omega)
     have hz2x1:w1.heap.size<w2.heap.size:=by have:=hb2.size;first|omega|(simp at this;omega)
     go_wp2_with fail
     go_ret
     exact aq rfl rfl (aa (jN (cS (aa (HB.out _) hb1) _)) hb2)
 ·cases g1:cz o.name
  ·rw [g1] at H1
   have hfin:aP o=false:=by simp [aP,k1,g1]
   rw [hfin];clear hfin H2 H3 q1 q2 q3 g1
   go_enter Tryz.func20,Tryz.ntmps20
   go_wp2_with fail
   refine (H1.out _).mono ?_
   rintro e w1 ⟨rfl,hb1⟩
   obtain ⟨hc1,hf1⟩:=az hb1
   have hz1x0:w.heap.size<w1.heap.size:=by have:=hb1.size;first|omega|(simp at this;omega)
   go_wp2_with fail
   go_ret
   exact aq rfl rfl (cS (aa (HB.out _) hb1) _)
  ·rw [g1] at H1
   have hfin:aP o=(eh o.key&&o.val.none):=by simp [aP,k1,g1]
   rw [hfin];clear hfin H2 H3 q2 q3 g1
   go_enter Tryz.func20,Tryz.ntmps20
   go_wp2_with fail
   refine (H1.out _).mono ?_
   rintro e w1 ⟨rfl,hb1⟩
   obtain ⟨hc1,hf1⟩:=az hb1
   have hz1x0:w.heap.size<w1.heap.size:=by have:=hb1.size;first|omega|(simp at this;omega)
   go_wp2_with fail
   go_ret
   exact aq rfl rfl (cS (aa (HB.out _) hb1) _)
theorem Eb (a b:ByteArray):(a++b).toList.isEmpty=(eh a&&eh b):=by
 rw [dk,eh,eh,ByteArray.size_append]
 by_cases h1:a.size=0<;>by_cases h2:b.size=0<;>simp [h1,h2]
set_option maxRecDepth 100000 in
set_option maxHeartbeats 8000000 in
theorem u7 (p:cQ) (k:Int) (s:ByteArray) (l:List Ex) (v:Value) (w:World) (ho:p.ok) (he:p.expr = .mk k s l) (hr:cm w l v) :
  Calls Tryz.prog 42 #[.agg #[.string p.aD, .string p.to, .bool p.path, .string p.label, .string p.name, .int .i64 k, .string s,v]] w (fU w (.bool (aR p))):=by
 obtain ⟨pv,cv,rfl, -, -⟩:=hr.shape
 obtain ⟨o1,o2,o3,o4,o5⟩:=ho
 have HF:=Lib.hid (fun W=>gD p.aD W o1.len)
 have HT:=Lib.hid (fun W=>gD p.to W o2.len)
 have HL:=Lib.hid (fun W=>gD p.label W o3.len)
 have HN:=Lib.hid (fun W=>gD p.name W o4.len)
 have HX:=Lib.hid (fun W (hb:Below w.heap.size w W)=>vD p.expr [.int .i64 k, .string s, .slice pv l.length cv] W (by rw [he,cf];exact ⟨_,rfl,hr.below hb⟩) o5)
 have HS:=Lib.hid (fun W (hb:Below w.heap.size w W)=>ry p.expr (.mk 0 ⟨#[]⟩ []) [.int .i64 k, .string s, .slice pv l.length cv] [.int .i64 0, .string ⟨#[]⟩, .slice none 0 0] W (by rw [he,cf];exact ⟨_,rfl,hr.below hb⟩) (by rw [cf];exact ⟨_,rfl,by rw [cm];exact .inl (.inl rfl)⟩))
 have HB:=Lib.hid (fun ob=>((Below.refl w.heap.size w).alloc (IV _) ob))
 have hsum:p.label.size+p.name.size≤9223372036854775807:=by unfold jx at o3 o4;omega
 have hcat:=Eb p.label p.name
 have hnn:=fL p.name
 have HSUM:=Lib.hid hsum;have HCAT:=Lib.hid hcat;have HNN:=Lib.hid hnn
 clear o1 o2 o3 o4 o5 he hr hsum hcat hnn
 cases g1:cz p.aD
 ·rw [g1] at HF
  have hfin:aR p=false:=by simp [aR,g1]
  rw [hfin];clear hfin HT HL HN HX HS g1
  go_enter Tryz.func42,Tryz.ntmps42
  go_wp2_with fail
  refine (HF.out _).mono ?_
  rintro e w1 ⟨rfl,hb1⟩
  obtain ⟨hc1,hf1⟩:=az hb1
  have hz1x0:w.heap.size<w1.heap.size:=by have:=hb1.size;first|omega|(simp at this;omega)
  go_wp2_with fail
  go_ret
  exact aq rfl rfl (aa (HB.out _) hb1)
 ·rw [g1] at HF
  cases g2:cz p.to
  ·rw [g2] at HT
   have hfin:aR p=false:=by simp [aR,g1,g2]
   rw [hfin];clear hfin HL HN HX HS g1 g2
   go_enter Tryz.func42,Tryz.ntmps42
   go_wp2_with fail
   refine (HF.out _).mono ?_
   rintro e w1 ⟨rfl,hb1⟩
   obtain ⟨hc1,hf1⟩:=az hb1
   have hz1x0:w.heap.size<w1.heap.size:=by have:=hb1.size;first|omega|(simp at this;omega)
   go_wp2_with fail
   refine (HT.out _).mono ?_
   rintro e w2 ⟨rfl,hb2⟩
   obtain ⟨hc2,hf2⟩:=az hb2
   have hz2x0:w.heap.size<w2.heap.size:=by have:=hb2.size;first|omega|(simp at this;omega)
   go_wp2_with fail
   go_ret
   exact aq rfl rfl (aa (aa (HB.out _) hb1) hb2)
  ·rw [g2] at HT
   cases g3:p.path
   ·cases g4:cz p.label
    ·rw [g4] at HL
     have hfin:aR p=false:=by simp [aR,g1,g2,g3,g4]
     rw [hfin];clear hfin HN HX HS g1 g2 g4
     go_enter Tryz.func42,Tryz.ntmps42
     go_wp2_with fail
     refine (HF.out _).mono ?_
     rintro e w1 ⟨rfl,hb1⟩
     obtain ⟨hc1,hf1⟩:=az hb1
     have hz1x0:w.heap.size<w1.heap.size:=by have:=hb1.size;first|omega|(simp at this;omega)
     go_wp2_with fail
     refine (HT.out _).mono ?_
     rintro e w2 ⟨rfl,hb2⟩
     obtain ⟨hc2,hf2⟩:=az hb2
     have hz2x0:w.heap.size<w2.heap.size:=by have:=hb2.size;first|omega|(simp at this;omega)
     go_wp2_with fail
     refine (HL.out _).mono ?_
     rintro e w3 ⟨rfl,hb3⟩
     obtain ⟨hc3,hf3⟩:=az hb3
     have hz3x0:w.heap.size<w3.heap.size:=by have:=hb3.size;first|omega|(simp at this;omega)
     go_wp2_with fail
     go_ret
     exact aq rfl rfl (aa (aa (aa (HB.out _) hb1) hb2) hb3)
    ·rw [g4] at HL
     cases g5:eh p.name
     ·have hnn:=HNN.out
      rw [g5] at hnn
      cases g6:cz p.name
      ·rw [g6] at HN
       have hfin:aR p=false:=by simp [aR,g1,g2,g3,g4,g5,g6]
       rw [hfin];clear hfin HX HS g1 g2 g4 g5 g6
       go_enter Tryz.func42,Tryz.ntmps42
       go_wp2_with fail
       refine (HF.out _).mono ?_
       rintro e w1 ⟨rfl,hb1⟩
       obtain ⟨hc1,hf1⟩:=az hb1
       have hz1x0:w.heap.size<w1.heap.size:=by have:=hb1.size;first|omega|(simp at this;omega)
       go_wp2_with fail
       refine (HT.out _).mono ?_
       rintro e w2 ⟨rfl,hb2⟩
       obtain ⟨hc2,hf2⟩:=az hb2
       have hz2x0:w.heap.size<w2.heap.size:=by have:=hb2.size;first|omega|(simp at this;omega)
       go_wp2_with fail
       refine (HL.out _).mono ?_
       rintro e w3 ⟨rfl,hb3⟩
       obtain ⟨hc3,hf3⟩:=az hb3
       have hz3x0:w.heap.size<w3.heap.size:=by have:=hb3.size;first|omega|(simp at this;omega)
       go_wp2_with fail
       refine (HN.out _).mono ?_
       rintro e w4 ⟨rfl,hb4⟩
       obtain ⟨hc4,hf4⟩:=az hb4
       have hz4x0:w.heap.size<w4.heap.size:=by have:=hb4.size;first|omega|(simp at this;omega)
       go_wp2_with fail
       go_ret
       exact aq rfl rfl (aa (aa (aa (aa (HB.out _) hb1) hb2) hb3) hb4)
      ·rw [g6] at HN
       have hfin:aR p=cp p.expr (.mk 0 ⟨#[]⟩ []):=by simp [aR,g1,g2,g3,g4,g5,g6]
       rw [hfin];clear hfin HX g1 g2 g4 g5 g6
       go_enter Tryz.func42,Tryz.ntmps42
       go_wp2_with fail
       refine (HF.out _).mono ?_
       rintro e w1 ⟨rfl,hb1⟩
       obtain ⟨hc1,hf1⟩:=az hb1
       have hz1x0:w.heap.size<w1.heap.size:=by have:=hb1.size;first|omega|(simp at this;omega)
       go_wp2_with fail
       refine (HT.out _).mono ?_
       rintro e w2 ⟨rfl,hb2⟩
       obtain ⟨hc2,hf2⟩:=az hb2
       have hz2x0:w.heap.size<w2.heap.size:=by have:=hb2.size;first|omega|(simp at this;omega)
       go_wp2_with fail
       refine (HL.out _).mono ?_
       rintro e w3 ⟨rfl,hb3⟩
       obtain ⟨hc3,hf3⟩:=az hb3
       have hz3x0:w.heap.size<w3.heap.size:=by have:=hb3.size;first|omega|(simp at this;omega)
       go_wp2_with fail
       refine (HN.out _).mono ?_
       rintro e w4 ⟨rfl,hb4⟩
       obtain ⟨hc4,hf4⟩:=az hb4
       have hz4x0:w.heap.size<w4.heap.size:=by have:=hb4.size;first|omega|(simp at this;omega)
       go_wp2_with fail
       refine (HS.out _ (aa (aa (aa (aa (HB.out _) hb1) hb2) hb3) hb4)).mono ?_
       rintro e w5 ⟨rfl,hb5⟩
       obtain ⟨hc5,hf5⟩:=az hb5
       have hz5x0:w.heap.size<w5.heap.size:=by have:=hb5.size;first|omega|(simp at this;omega)
       go_wp2_with fail
       go_ret
       exact aq rfl rfl (aa (aa (aa (aa (aa (HB.out _) hb1) hb2) hb3) hb4) hb5)
     ·have hnn:=HNN.out
      rw [g5] at hnn
      have hfin:aR p=cp p.expr (.mk 0 ⟨#[]⟩ []):=by simp [aR,g1,g2,g3,g4,g5]
      rw [hfin];clear hfin HX HN g1 g2 g4 g5
      go_enter Tryz.func42,Tryz.ntmps42
      go_wp2_with fail
      refine (HF.out _).mono ?_
      rintro e w1 ⟨rfl,hb1⟩
      obtain ⟨hc1,hf1⟩:=az hb1
      have hz1x0:w.heap.size<w1.heap.size:=by have:=hb1.size;first|omega|(simp at this;omega)
      go_wp2_with fail
      refine (HT.out _).mono ?_
      rintro e w2 ⟨rfl,hb2⟩
      obtain ⟨hc2,hf2⟩:=az hb2
      have hz2x0:w.heap.size<w2.heap.size:=by have:=hb2.size;first|omega|(simp at this;omega)
      go_wp2_with fail
      refine (HL.out _).mono ?_
      rintro e w3 ⟨rfl,hb3⟩
      obtain ⟨hc3,hf3⟩:=az hb3
      have hz3x0:w.heap.size<w3.heap.size:=by have:=hb3.size;first|omega|(simp at this;omega)
      go_wp2_with fail
      refine (HS.out _ (aa (aa (aa (HB.out _) hb1) hb2) hb3)).mono ?_
      rintro e w4 ⟨rfl,hb4⟩
      obtain ⟨hc4,hf4⟩:=az hb4
      have hz4x0:w.heap.size<w4.heap.size:=by have:=hb4.size;first|omega|(simp at this;omega)
      go_wp2_with fail
      go_ret
      exact aq rfl rfl (aa (aa (aa (aa (HB.out _) hb1) hb2) hb3) hb4)
   ·have hsum:=HSUM.out
    have hcat:=HCAT.out
    cases g4:eh p.label&&eh p.name
    ·rw [g4] at hcat
     have hfin:aR p=false:=by simp [aR,g1,g2,g3,g4]
     rw [hfin];clear hfin HL HN HX HS g1 g2 g4
     go_enter Tryz.func42,Tryz.ntmps42
     go_wp2_with fail
     refine (HF.out _).mono ?_
     rintro e w1 ⟨rfl,hb1⟩
     obtain ⟨hc1,hf1⟩:=az hb1
     have hz1x0:w.heap.size<w1.heap.size:=by have:=hb1.size;first|omega|(simp at this;omega)
     go_wp2_with fail
     refine (HT.out _).mono ?_
     rintro e w2 ⟨rfl,hb2⟩
     obtain ⟨hc2,hf2⟩:=az hb2
     have hz2x0:w.heap.size<w2.heap.size:=by have:=hb2.size;first|omega|(simp at this;omega)
     go_wp2_with fail
     go_ret
     exact aq rfl rfl (aa (aa (HB.out _) hb1) hb2)
    ·rw [g4] at hcat
     have hfin:aR p=gp p.expr:=by simp [aR,g1,g2,g3,g4]
     rw [hfin];clear hfin HL HN HS g1 g2 g4
     go_enter Tryz.func42,Tryz.ntmps42
     go_wp2_with fail
     refine (HF.out _).mono ?_
     rintro e w1 ⟨rfl,hb1⟩
     obtain ⟨hc1,hf1⟩:=az hb1
     have hz1x0:w.heap.size<w1.heap.size:=by have:=hb1.size;first|omega|(simp at this;omega)
     go_wp2_with fail
     refine (HT.out _).mono ?_
     rintro e w2 ⟨rfl,hb2⟩
     obtain ⟨hc2,hf2⟩:=az hb2
     have hz2x0:w.heap.size<w2.heap.size:=by have:=hb2.size;first|omega|(simp at this;omega)
     go_wp2_with fail
     refine (HX.out _ (aa (aa (HB.out _) hb1) hb2)).mono ?_
     rintro e w3 ⟨rfl,hb3⟩
     obtain ⟨hc3,hf3⟩:=az hb3
     have hz3x0:w.heap.size<w3.heap.size:=by have:=hb3.size;first|omega|(simp at this;omega)
     go_wp2_with fail
     go_ret
     exact aq rfl rfl (aa (aa (aa (HB.out _) hb1) hb2) hb3)
set_option maxRecDepth 100000 in
set_option maxHeartbeats 4000000 in
theorem Bs (c:ew) (w:World) (ho:c.ok):Calls Tryz.prog 44 #[.agg #[.int .i64 c.op, .int .i64 c.left.kind, .string c.left.name, .string c.left.key, .int .i64 c.left.val.kind, .int .i64 c.left.val.num, .string c.left.val.text, .int .i64 c.right.kind, .string c.right.name, .string c.right.key, .int .i64 c.right.val.kind, .int .i64 c.right.val.num, .string c.right.val.text]] w (fU w (.bool (bU c))):=by
 have H0:=Lib.hid (fun W=>fS c.op 1 6 W)
 have H1:=Lib.hid (fun W=>gR c.left W ho.1)
 have H2:=Lib.hid (fun W=>gR c.right W ho.2)
 have HB:=Lib.hid (fun ob=>((Below.refl w.heap.size w).alloc (IV _) ob))
 clear ho
 cases g0:kr c.op 1 6
 ·rw [g0] at H0
  have hfin:bU c=false:=by simp [bU,g0]
  rw [hfin];clear hfin H1 H2 g0
  go_enter Tryz.func44,Tryz.ntmps44
  go_wp2_with fail
  refine (H0.out _).mono ?_
  rintro e w' ⟨rfl,rfl⟩
  go_wp2_with fail
  go_ret
  exact aq rfl rfl (HB.out _)
 ·rw [g0] at H0
  cases g1:aP c.left
  ·rw [g1] at H1
   have hfin:bU c=false:=by simp [bU,g0,g1]
   rw [hfin];clear hfin H2 g0 g1
   go_enter Tryz.func44,Tryz.ntmps44
   go_wp2_with fail
   refine (H0.out _).mono ?_
   rintro e w' ⟨rfl,rfl⟩
   go_wp2_with fail
   refine (H1.out _).mono ?_
   rintro e w1 ⟨rfl,hb1⟩
   obtain ⟨hc1,hf1⟩:=az hb1
   have hz1x0:w.heap.size<w1.heap.size:=by have:=hb1.size;first|omega|(simp at this;omega)
   go_wp2_with fail
   go_ret
   exact aq rfl rfl (aa (HB.out _) hb1)
  ·rw [g1] at H1
   have hfin:bU c=aP c.right:=by simp [bU,g0,g1]
   rw [hfin];clear hfin g0 g1
   go_enter Tryz.func44,Tryz.ntmps44
   go_wp2_with fail
   refine (H0.out _).mono ?_
   rintro e w' ⟨rfl,rfl⟩
   go_wp2_with fail
   refine (H1.out _).mono ?_
   rintro e w1 ⟨rfl,hb1⟩
   obtain ⟨hc1,hf1⟩:=az hb1
   have hz1x0:w.heap.size<w1.heap.size:=by have:=hb1.size;first|omega|(simp at this;omega)
   go_wp2_with fail
   refine (H2.out _).mono ?_
   rintro e w2 ⟨rfl,hb2⟩
   obtain ⟨hc2,hf2⟩:=az hb2
   have hz2x0:w.heap.size<w2.heap.size:=by have:=hb2.size;first|omega|(simp at this;omega)
   go_wp2_with fail
   go_ret
   exact aq rfl rfl (aa (aa (HB.out _) hb1) hb2)
set_option maxRecDepth 100000 in
set_option maxHeartbeats 4000000 in
theorem zV (o:cg) (w:World) (ho:o.ok):Calls Tryz.prog 46 #[.agg #[.int .i64 o.kind, .string o.name, .string o.key, .int .i64 o.val.kind, .int .i64 o.val.num, .string o.val.text]] w (fU w (.bool (cq o))):=by
 have H1:=Lib.hid (fun W=>gR o W ho)
 have HB:=Lib.hid (fun ob=>((Below.refl w.heap.size w).alloc (IV _) ob))
 clear ho
 cases g0:o.kind !=3
 ·have hfin:cq o=false:=by simp only [cq,g0,Bool.false_and]
  rw [hfin];clear hfin H1
  go_enter Tryz.func46,Tryz.ntmps46
  go_wp2_with fail
  go_ret
  exact aq rfl rfl (HB.out _)
 ·have hfin:cq o=aP o:=by simp only [cq,g0,Bool.true_and]
  rw [hfin];clear hfin
  go_enter Tryz.func46,Tryz.ntmps46
  go_wp2_with fail
  refine (H1.out _).mono ?_
  rintro e w1 ⟨rfl,hb1⟩
  obtain ⟨hc1,hf1⟩:=az hb1
  have hz1x0:w.heap.size<w1.heap.size:=by have:=hb1.size;first|omega|(simp at this;omega)
  go_wp2_with fail
  go_ret
  exact aq rfl rfl (aa (HB.out _) hb1)
end Go.Proofs.YtldnlbcibmmbbaaGreat
