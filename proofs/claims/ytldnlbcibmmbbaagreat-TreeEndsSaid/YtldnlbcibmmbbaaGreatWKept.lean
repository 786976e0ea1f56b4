/- The statements' kit: what was lent is kept: the walks. Printed by gen_kept.py. -/
import Derived.Test.YtldnlbcibmmbbaaGreatWRef11
import Derived.Test.YtldnlbcibmmbbaaGreatWSame
import Derived.Test.YtldnlbcibmmbbaaGreatWRef07
set_option linter.unusedSimpArgs false
set_option linter.unusedVariables false
open Bool renaming and_self → Km, and_true → Kh, true_and → Kj
open Int renaming ofNat_lt → Kw, ofNat_le → Kx
open List renaming getD_eq_getElem?_getD → JR, getElem?_append_left → I1, getElem?_append_right → Jt, length_cons → I5, length_nil → IZ, replicate_succ → Kn, replicate_zero → Ko, cons_append → Kq, nil_append → Kr, foldl_cons → Ks, foldl_nil → Kt
open Nat renaming lt_or_ge → I2
namespace Go.Proofs.YtldnlbcibmmbbaaGreat
open Go.RowKit
theorem pX (x y:Ex):ai Tryz.prog 120 [.agg (bL x), .agg (bL y)] (.v (.bool (cp x y))):=
 .fq (by kernel_rfl) (by simp only [bB,AV.wf,jH,Km]) (fun D nu w vargs h=>by
  obtain ⟨a,b,rfl,ha,hb⟩:=ja h
  obtain ⟨ca,rfl,ka⟩:=mA ha
  obtain ⟨cb,rfl,kb⟩:=mA hb
  exact lq x y ca cb w (vQ x ca ka) (vQ y cb kb))
theorem kH (x y:cQ):ai Tryz.prog 103 [.agg (bo x), .agg (bo y)] (.v (.bool (aG x y))):=
 .fq (by kernel_rfl) (by simp only [bB,AV.wf,lA,Km]) (fun D nu w vargs h=>by
  obtain ⟨a,b,rfl,ha,hb⟩:=ja h
  obtain ⟨ca,rfl,ka⟩:=mA ha
  obtain ⟨cb,rfl,kb⟩:=mA hb
  obtain ⟨k1,s1,l1,v1,e1,r1,rfl⟩:=s5 x ca ka
  obtain ⟨k2,s2,l2,v2,e2,r2,rfl⟩:=s5 y cb kb
  exact jr x y k1 s1 l1 v1 k2 s2 l2 v2 w e1 r1 e2 r2)
theorem m8 (x:Ex):cp x x=true:=(rq x x).2 rfl
theorem lp (x:cQ):aG x x=true:=(Df x x).2 rfl
theorem nV {α:Type} (f:α→List AV) (l:List α) (m:List (List AV)) (i:Nat) (h:i<l.length):(l.map f++m).getD i []=f l[i]:=by
 rw [JR,I1 (by simpa using h)];simp [h]
theorem ur (f:Nat→List AV): ∀n i,i<n→(dX f n)[i]? = some (f i)
 | 0,i,h=>absurd h (by omega)
 | n+1,i,h=>by
  rw [dX]
  rcases I2 i n with q|q
  ·rw [I1 (by rw [fM];exact q)];exact ur f n i q
  ·obtain rfl:i=n:=by omega
   rw [Jt (by rw [fM];exact Nat.le_refl _),fM];simp
theorem nI {α:Type} (f:α→List AV) (l:List α) (m:Nat→List AV) (j:Nat) (h:j<12):(l.map f++marksOf m).getD (l.length+j) []=m j:=by
 rw [JR,Jt (by simp),List.length_map,Nat.add_sub_cancel_left,marksOf,ur m 12 j h];rfl
def Hi (i:Nat):Ex:= .mk ((8000024+i:Nat):Int) ⟨#[]⟩ []
def D9 (i:Nat):cQ:=⟨⟨#[]⟩,⟨#[]⟩,false,⟨#[109]⟩,⟨#[]⟩,Hi i⟩
theorem tU (i:Nat):jq (cT i) (bo (D9 i)):= .cons (.refl _) (.cons (.refl _) (.cons (.refl _) (.cons (.refl _) (.cons (.refl _) (.cons (.refl _) (.cons (.refl _) (.cons (.nil 3) .nil)))))))
set_option maxRecDepth 100000 in
set_option maxHeartbeats 4000000 in
theorem sj (l:List Ex) (hl:l.length≤1000000) (H: ∀x,x∈l→ai Tryz.prog 119 [.agg (cd x), .agg (bL x)] (.v (.bool true))) :
  ai Tryz.prog 123 [.an 3 (l.map cd++marksOf dc) l.length, .an 3 (l.map bL) l.length] (.v (.bool true)):=by
 have e1:IntKind.i64.wrap ((l.length:Int)+12)=((l.length+12:Nat):Int):=kK hl
 (refine ai.enter Tryz.func123 rfl (by kernel_rfl) (by kernel_rfl) rfl (by first|rfl|(simp only [go_sem,Km,Kh,Kj])) (by first|rfl|(simp only [go_sem,Km,Kh,Kj])) ?_;simp only [Tryz.ntmps123,Tryz.results123,I5,IZ,Nat.reduceAdd,Nat.reduceSub,Kn,Ko,Kq,Kr])
 repeat (first|(with_reducible first|refine ah.up ?_|refine fun (K:AK) hK=> ?_|refine wD ?_|(refine hK _ ?_;clear hK K))|simp only [go_sem,e1]|with_reducible refine wA ?_|clear hK K)
 refine aZ (ι:=Nat) (fun i=>[(0, .an 3 (l.map cd++marksOf dc) l.length),(1, .an 3 (l.map bL) l.length),(4, .v (.bool false)),(5, .an 3 (l.map cd++marksOf dc) (l.length+12)),(6, .v (.int .i64 i))]) (fun _=>[]) (fun i=>l.length+12 - i) (fun i=>i≤l.length+12) 0 (by omega) ?_ ?_
 ·(refine au ?_ ?_ ?_<;>simp only [aD,Ks,Kt,Kn,Ko,bu,bt,AV.v.injEq,Value.int.injEq,Value.bool.injEq,Value.string.injEq,AV.vec.injEq,AV.ptr.injEq,true_or,or_true,false_or,or_false,ab.mk.injEq,forall_eq_apply_imp_iff,forall_eq,forall_eq',go_sem])
  rfl
 ·intro i hi K hK
  simp only [aD,Ks,Kt,Kn,Ko,go_sem]
  repeat (first|(with_reducible first|refine ah.up ?_|refine fun (K:AK) hK=> ?_|refine wD ?_|(refine hK _ ?_;clear hK K))|simp only [go_sem]|with_reducible refine wA ?_|clear hK K)
  refine aO.part (fun h=> ?_) (fun h=> ?_)
  ·have hlt:i<l.length+12:=by (try simp only [bne_iff_ne,ne_eq,bne_eq_false_iff_eq,beq_iff_eq,beq_eq_false_iff_ne,decide_eq_true_eq,decide_eq_false_iff_not,Bool.not_eq_eq_eq_not,Int.natCast_inj,Kw,Kx] at h);omega
   have eW:=ar (k:=i) (by omega)
   rcases I2 i l.length with q|q
   ·have g1:decide ((i:Int)<(l.length:Int))=true:=by simpa using q
    have g2:decide ((l.length:Int)≤(i:Int))=false:=by simpa using q
    have eG:=nV cd l (marksOf dc) i q
    have eH:=getD_map bL l i [] q
    have HX:=H l[i] (List.getElem_mem q)
    simp only [aY,eC] at HX eG eH
    repeat (first|(with_reducible first|refine ah.up ?_|refine fun (K:AK) hK=> ?_|refine wD ?_|(refine hK _ ?_;clear hK K))|simp only [go_sem,g1,g2,eG,eH]|with_reducible refine wA ?_|clear hK K)
    refine aw.one HX ?_
    repeat (first|(with_reducible first|refine ah.up ?_|refine fun (K:AK) hK=> ?_|refine wD ?_|(refine hK _ ?_;clear hK K))|simp only [go_sem,g1,g2,eW,Go.undef]|with_reducible refine wA ?_|clear hK K)
    exact aC.mk (i+1) (by omega) (by omega) (by (refine au ?_ ?_ ?_<;>simp only [aD,Ks,Kt,Kn,Ko,bu,bt,AV.v.injEq,Value.int.injEq,Value.bool.injEq,Value.string.injEq,AV.vec.injEq,AV.ptr.injEq,true_or,or_true,false_or,or_false,ab.mk.injEq,forall_eq_apply_imp_iff,forall_eq,forall_eq',go_sem]))
   ·obtain ⟨j,hj⟩: ∃j,i=l.length+j:=⟨i - l.length,by omega⟩
    have g1:decide ((i:Int)<(l.length:Int))=false:=decide_eq_false (by omega)
    have g2:decide ((l.length:Int)≤(i:Int))=true:=decide_eq_true (by omega)
    have eS:IntKind.i64.wrap ((i:Int) - (l.length:Int))=(j:Int):=by rw [cL (by omega) (by omega)];omega
    have eG:(l.map cd++marksOf dc).getD i []=dc j:=by rw [hj];exact nI cd l dc j (by omega)
    have M:=pV j (by omega)
    have S:=(pX (Hi j) (Hi j)).le (args':=[.agg (dc j), .agg (dc j)]) rfl (.cons (tF j).agg (.cons (tF j).agg .nil))
    rw [m8] at S
    simp only [dc,pN] at M S eG
    repeat (first|(with_reducible first|refine ah.up ?_|refine fun (K:AK) hK=> ?_|refine wD ?_|(refine hK _ ?_;clear hK K))|simp only [go_sem,g1,g2,eG,eS,eW,Go.undef]|with_reducible refine wA ?_|clear hK K)
    refine aw.one M ?_
    repeat (first|(with_reducible first|refine ah.up ?_|refine fun (K:AK) hK=> ?_|refine wD ?_|(refine hK _ ?_;clear hK K))|simp only [go_sem,g1,g2,eG,eS,eW,Go.undef]|with_reducible refine wA ?_|clear hK K)
    refine aw.one S ?_
    repeat (first|(with_reducible first|refine ah.up ?_|refine fun (K:AK) hK=> ?_|refine wD ?_|(refine hK _ ?_;clear hK K))|simp only [go_sem,g1,g2,eG,eS,eW,Go.undef]|with_reducible refine wA ?_|clear hK K)
    exact aC.mk (i+1) (by omega) (by omega) (by (refine au ?_ ?_ ?_<;>simp only [aD,Ks,Kt,Kn,Ko,bu,bt,AV.v.injEq,Value.int.injEq,Value.bool.injEq,Value.string.injEq,AV.vec.injEq,AV.ptr.injEq,true_or,or_true,false_or,or_false,ab.mk.injEq,forall_eq_apply_imp_iff,forall_eq,forall_eq',go_sem]))
  ·repeat (first|(with_reducible first|refine ah.up ?_|refine fun (K:AK) hK=> ?_|refine wD ?_|(refine hK _ ?_;clear hK K))|simp only [go_sem]|with_reducible refine wA ?_|clear hK K)
set_option maxRecDepth 100000 in
set_option maxHeartbeats 4000000 in
theorem xa (x:Ex) (hx:x.lens 1000000):ai Tryz.prog 119 [.agg (cd x), .agg (bL x)] (.v (.bool true)):=by
 induction x using Ex.ind with
 | h k s l ih=>
  have hk: ∀y,y∈l→y.lens 1000000:=fun y hy z hz=>hx z (by rw [ak,bJ];exact List.mem_cons_of_mem _ (List.mem_flatMap.2 ⟨y,hy,hz⟩))
  have C:=sj l (hx (.mk k s l) (by rw [ak];exact List.mem_cons_self)) (fun y hy=>ih y hy (hk y hy))
  have S:=(pX (.mk k s l) (.mk k s l)).le (args':=[.agg (cd (.mk k s l)), .agg (bL (.mk k s l))]) (by simp only [bB,AV.wf,mc,jH,Km]) (.cons (uj _).agg (.cons (.refl _) .nil))
  rw [m8] at S
  rw [aY,eC] at S ⊢
  simp only [Ex.kind,Ex.label,Ex.kids] at S ⊢
  (refine ai.enter Tryz.func119 rfl (by kernel_rfl) (by kernel_rfl) rfl (by first|rfl|(simp only [go_sem,Km,Kh,Kj])) (by first|rfl|(simp only [go_sem,Km,Kh,Kj])) ?_;simp only [Tryz.ntmps119,Tryz.results119,I5,IZ,Nat.reduceAdd,Nat.reduceSub,Kn,Ko,Kq,Kr])
  repeat (first|(with_reducible first|refine ah.up ?_|refine fun (K:AK) hK=> ?_|(refine hK _ ?_;clear hK K))|simp only [go_sem]|with_reducible refine wA ?_|clear hK K)
  refine aj.one S ?_
  repeat (first|(with_reducible first|refine ah.up ?_|refine fun (K:AK) hK=> ?_|(refine hK _ ?_;clear hK K))|simp only [go_sem]|with_reducible refine wA ?_|clear hK K)
  refine aj.one C ?_
  repeat (first|(with_reducible first|refine ah.up ?_|refine fun (K:AK) hK=> ?_|(refine hK _ ?_;clear hK K))|simp only [go_sem]|with_reducible refine wA ?_|clear hK K)
set_option maxRecDepth 100000 in
set_option maxHeartbeats 4000000 in
theorem qx (p:cQ) (hx:p.expr.lens 1000000):ai Tryz.prog 102 [.agg (b9 p), .agg (bo p)] (.v (.bool true)):=by
 have C:=xa p.expr hx
 have S:=(kH p p).le (args':=[.agg (b9 p), .agg (bo p)]) (by simp only [bB,AV.wf,qZ,lA,Km]) (.cons (ue _).agg (.cons (.refl _) .nil))
 rw [lp] at S
 simp only [aY,eC] at C
 simp only [bo,b9] at S ⊢
 (refine ai.enter Tryz.func102 rfl (by kernel_rfl) (by kernel_rfl) rfl (by first|rfl|(simp only [go_sem,Km,Kh,Kj])) (by first|rfl|(simp only [go_sem,Km,Kh,Kj])) ?_;simp only [Tryz.ntmps102,Tryz.results102,I5,IZ,Nat.reduceAdd,Nat.reduceSub,Kn,Ko,Kq,Kr])
 repeat (first|(with_reducible first|refine ah.up ?_|refine fun (K:AK) hK=> ?_|(refine hK _ ?_;clear hK K))|simp only [go_sem]|clear hK K)
 refine aj.one S ?_
 repeat (first|(with_reducible first|refine ah.up ?_|refine fun (K:AK) hK=> ?_|(refine hK _ ?_;clear hK K))|simp only [go_sem]|clear hK K)
 refine aj.one C ?_
 repeat (first|(with_reducible first|refine ah.up ?_|refine fun (K:AK) hK=> ?_|(refine hK _ ?_;clear hK K))|simp only [go_sem]|clear hK K)
set_option maxRecDepth 100000 in
set_option maxHeartbeats 4000000 in
theorem pW (l:List cQ) (hl:l.length≤1000000) (hx: ∀p,p∈l→p.expr.lens 1000000) :
  ai Tryz.prog 64 [.an 8 (l.map b9++marksOf cT) l.length, .an 8 (l.map bo) l.length] (.v (.bool true)):=by
 have e1:IntKind.i64.wrap ((l.length:Int)+12)=((l.length+12:Nat):Int):=kK hl
 (refine ai.enter Tryz.func64 rfl (by kernel_rfl) (by kernel_rfl) rfl (by first|rfl|(simp only [go_sem,Km,Kh,Kj])) (by first|rfl|(simp only [go_sem,Km,Kh,Kj])) ?_;simp only [Tryz.ntmps64,Tryz.results64,I5,IZ,Nat.reduceAdd,Nat.reduceSub,Kn,Ko,Kq,Kr])
 repeat (first|(with_reducible first|refine ah.up ?_|refine fun (K:AK) hK=> ?_|refine wD ?_|(refine hK _ ?_;clear hK K))|simp only [go_sem,e1]|with_reducible refine wA ?_|clear hK K)
 refine aZ (ι:=Nat) (fun i=>[(0, .an 8 (l.map b9++marksOf cT) l.length),(1, .an 8 (l.map bo) l.length),(4, .v (.bool false)),(5, .an 8 (l.map b9++marksOf cT) (l.length+12)),(6, .v (.int .i64 i))]) (fun _=>[]) (fun i=>l.length+12 - i) (fun i=>i≤l.length+12) 0 (by omega) ?_ ?_
 ·(refine au ?_ ?_ ?_<;>simp only [aD,Ks,Kt,Kn,Ko,bu,bt,AV.v.injEq,Value.int.injEq,Value.bool.injEq,Value.string.injEq,AV.vec.injEq,AV.ptr.injEq,true_or,or_true,false_or,or_false,ab.mk.injEq,forall_eq_apply_imp_iff,forall_eq,forall_eq',go_sem])
  rfl
 ·intro i hi K hK
  simp only [aD,Ks,Kt,Kn,Ko,go_sem]
  repeat (first|(with_reducible first|refine ah.up ?_|refine fun (K:AK) hK=> ?_|refine wD ?_|(refine hK _ ?_;clear hK K))|simp only [go_sem]|with_reducible refine wA ?_|clear hK K)
  refine aO.part (fun h=> ?_) (fun h=> ?_)
  ·have hlt:i<l.length+12:=by (try simp only [decide_eq_true_eq,decide_eq_false_iff_not,Kw,Kx] at h);omega
   have eW:=ar (k:=i) (by omega)
   rcases I2 i l.length with q|q
   ·have g1:decide ((i:Int)<(l.length:Int))=true:=by simpa using q
    have g2:decide ((l.length:Int)≤(i:Int))=false:=by simpa using q
    have eG:=nV b9 l (marksOf cT) i q
    have eH:=getD_map bo l i [] q
    have HX:=qx l[i] (hx _ (List.getElem_mem q))
    simp only [bo,b9] at HX eG eH
    repeat (first|(with_reducible first|refine ah.up ?_|refine fun (K:AK) hK=> ?_|refine wD ?_|(refine hK _ ?_;clear hK K))|simp only [go_sem,g1,g2,eG,eH]|with_reducible refine wA ?_|clear hK K)
    refine aw.one HX ?_
    repeat (first|(with_reducible first|refine ah.up ?_|refine fun (K:AK) hK=> ?_|refine wD ?_|(refine hK _ ?_;clear hK K))|simp only [go_sem,g1,g2,eW,Go.undef]|with_reducible refine wA ?_|clear hK K)
    exact aC.mk (i+1) (by omega) (by omega) (by (refine au ?_ ?_ ?_<;>simp only [aD,Ks,Kt,Kn,Ko,bu,bt,AV.v.injEq,Value.int.injEq,Value.bool.injEq,Value.string.injEq,AV.vec.injEq,AV.ptr.injEq,true_or,or_true,false_or,or_false,ab.mk.injEq,forall_eq_apply_imp_iff,forall_eq,forall_eq',go_sem]))
   ·obtain ⟨j,hj⟩: ∃j,i=l.length+j:=⟨i - l.length,by omega⟩
    have g1:decide ((i:Int)<(l.length:Int))=false:=decide_eq_false (by omega)
    have g2:decide ((l.length:Int)≤(i:Int))=true:=decide_eq_true (by omega)
    have eS:IntKind.i64.wrap ((i:Int) - (l.length:Int))=(j:Int):=by rw [cL (by omega) (by omega)];omega
    have eG:(l.map b9++marksOf cT).getD i []=cT j:=by rw [hj];exact nI b9 l cT j (by omega)
    have M:=xD j (by omega)
    have S:=(kH (D9 j) (D9 j)).le (args':=[.agg (cT j), .agg (cT j)]) rfl (.cons (tU j).agg (.cons (tU j).agg .nil))
    rw [lp] at S
    simp only [cT,pN] at M S eG
    repeat (first|(with_reducible first|refine ah.up ?_|refine fun (K:AK) hK=> ?_|refine wD ?_|(refine hK _ ?_;clear hK K))|simp only [go_sem,g1,g2,eG,eS,eW,Go.undef]|with_reducible refine wA ?_|clear hK K)
    refine aw.one M ?_
    repeat (first|(with_reducible first|refine ah.up ?_|refine fun (K:AK) hK=> ?_|refine wD ?_|(refine hK _ ?_;clear hK K))|simp only [go_sem,g1,g2,eG,eS,eW,Go.undef]|with_reducible refine wA ?_|clear hK K)
    refine aw.one S ?_
    repeat (first|(with_reducible first|refine ah.up ?_|refine fun (K:AK) hK=> ?_|refine wD ?_|(refine hK _ ?_;clear hK K))|simp only [go_sem,g1,g2,eG,eS,eW,Go.undef]|with_reducible refine wA ?_|clear hK K)
    exact aC.mk (i+1) (by omega) (by omega) (by (refine au ?_ ?_ ?_<;>simp only [aD,Ks,Kt,Kn,Ko,bu,bt,AV.v.injEq,Value.int.injEq,Value.bool.injEq,Value.string.injEq,AV.vec.injEq,AV.ptr.injEq,true_or,or_true,false_or,or_false,ab.mk.injEq,forall_eq_apply_imp_iff,forall_eq,forall_eq',go_sem]))
  ·repeat (first|(with_reducible first|refine ah.up ?_|refine fun (K:AK) hK=> ?_|refine wD ?_|(refine hK _ ?_;clear hK K))|simp only [go_sem]|with_reducible refine wA ?_|clear hK K)
set_option maxRecDepth 100000 in
set_option maxHeartbeats 4000000 in
theorem Cg (l:List ew) (hl:l.length≤1000000) :
  ai Tryz.prog 65 [.an 13 (l.map bg++marksOf dA) l.length, .an 13 (l.map bg) l.length] (.v (.bool true)):=by
 have e1:IntKind.i64.wrap ((l.length:Int)+12)=((l.length+12:Nat):Int):=kK hl
 (refine ai.enter Tryz.func65 rfl (by kernel_rfl) (by kernel_rfl) rfl (by first|rfl|(simp only [go_sem,Km,Kh,Kj])) (by first|rfl|(simp only [go_sem,Km,Kh,Kj])) ?_;simp only [Tryz.ntmps65,Tryz.results65,I5,IZ,Nat.reduceAdd,Nat.reduceSub,Kn,Ko,Kq,Kr])
 repeat (first|(with_reducible first|refine ah.up ?_|refine fun (K:AK) hK=> ?_|refine wD ?_|(refine hK _ ?_;clear hK K))|simp only [go_sem,e1]|with_reducible refine wA ?_|clear hK K)
 refine aZ (ι:=Nat) (fun i=>[(0, .an 13 (l.map bg++marksOf dA) l.length),(1, .an 13 (l.map bg) l.length),(4, .v (.bool false)),(5, .an 13 (l.map bg++marksOf dA) (l.length+12)),(6, .v (.int .i64 i))]) (fun _=>[]) (fun i=>l.length+12 - i) (fun i=>i≤l.length+12) 0 (by omega) ?_ ?_
 ·(refine au ?_ ?_ ?_<;>simp only [aD,Ks,Kt,Kn,Ko,bu,bt,AV.v.injEq,Value.int.injEq,Value.bool.injEq,Value.string.injEq,AV.vec.injEq,AV.ptr.injEq,true_or,or_true,false_or,or_false,ab.mk.injEq,forall_eq_apply_imp_iff,forall_eq,forall_eq',go_sem])
  rfl
 ·intro i hi K hK
  simp only [aD,Ks,Kt,Kn,Ko,go_sem]
  repeat (first|(with_reducible first|refine ah.up ?_|refine fun (K:AK) hK=> ?_|refine wD ?_|(refine hK _ ?_;clear hK K))|simp only [go_sem]|with_reducible refine wA ?_|clear hK K)
  refine aO.part (fun h=> ?_) (fun h=> ?_)
  ·have hlt:i<l.length+12:=by (try simp only [decide_eq_true_eq,decide_eq_false_iff_not,Kw,Kx] at h);omega
   have eW:=ar (k:=i) (by omega)
   rcases I2 i l.length with q|q
   ·have g1:decide ((i:Int)<(l.length:Int))=true:=by simpa using q
    have g2:decide ((l.length:Int)≤(i:Int))=false:=by simpa using q
    have eG:=nV bg l (marksOf dA) i q
    have eH:=getD_map bg l i [] q
    simp only [bg] at eG eH
    repeat (first|(with_reducible first|refine ah.up ?_|refine fun (K:AK) hK=> ?_|refine wD ?_|(refine hK _ ?_;clear hK K))|simp only [go_sem,g1,g2,eG,eH,eW,Go.undef]|with_reducible refine wA ?_|clear hK K)
    exact aC.mk (i+1) (by omega) (by omega) (by (refine au ?_ ?_ ?_<;>simp only [aD,Ks,Kt,Kn,Ko,bu,bt,AV.v.injEq,Value.int.injEq,Value.bool.injEq,Value.string.injEq,AV.vec.injEq,AV.ptr.injEq,true_or,or_true,false_or,or_false,ab.mk.injEq,forall_eq_apply_imp_iff,forall_eq,forall_eq',go_sem]))
   ·obtain ⟨j,hj⟩: ∃j,i=l.length+j:=⟨i - l.length,by omega⟩
    have g1:decide ((i:Int)<(l.length:Int))=false:=decide_eq_false (by omega)
    have g2:decide ((l.length:Int)≤(i:Int))=true:=decide_eq_true (by omega)
    have eS:IntKind.i64.wrap ((i:Int) - (l.length:Int))=(j:Int):=by rw [cL (by omega) (by omega)];omega
    have eG:(l.map bg++marksOf dA).getD i []=dA j:=by rw [hj];exact nI bg l dA j (by omega)
    have M:=xK j (by omega)
    simp only [dA,pN] at M eG
    repeat (first|(with_reducible first|refine ah.up ?_|refine fun (K:AK) hK=> ?_|refine wD ?_|(refine hK _ ?_;clear hK K))|simp only [go_sem,g1,g2,eG,eS,eW,Go.undef]|with_reducible refine wA ?_|clear hK K)
    refine aw.one M ?_
    repeat (first|(with_reducible first|refine ah.up ?_|refine fun (K:AK) hK=> ?_|refine wD ?_|(refine hK _ ?_;clear hK K))|simp only [go_sem,g1,g2,eG,eS,eW,Go.undef]|with_reducible refine wA ?_|clear hK K)
    exact aC.mk (i+1) (by omega) (by omega) (by (refine au ?_ ?_ ?_<;>simp only [aD,Ks,Kt,Kn,Ko,bu,bt,AV.v.injEq,Value.int.injEq,Value.bool.injEq,Value.string.injEq,AV.vec.injEq,AV.ptr.injEq,true_or,or_true,false_or,or_false,ab.mk.injEq,forall_eq_apply_imp_iff,forall_eq,forall_eq',go_sem]))
  ·repeat (first|(with_reducible first|refine ah.up ?_|refine fun (K:AK) hK=> ?_|refine wD ?_|(refine hK _ ?_;clear hK K))|simp only [go_sem]|with_reducible refine wA ?_|clear hK K)
set_option maxRecDepth 100000 in
set_option maxHeartbeats 4000000 in
theorem Db (l:List cg) (hl:l.length≤1000000) :
  ai Tryz.prog 66 [.an 6 (l.map aN++marksOf dy) l.length, .an 6 (l.map aN) l.length] (.v (.bool true)):=by
 have e1:IntKind.i64.wrap ((l.length:Int)+12)=((l.length+12:Nat):Int):=kK hl
 (refine ai.enter Tryz.func66 rfl (by kernel_rfl) (by kernel_rfl) rfl (by first|rfl|(simp only [go_sem,Km,Kh,Kj])) (by first|rfl|(simp only [go_sem,Km,Kh,Kj])) ?_;simp only [Tryz.ntmps66,Tryz.results66,I5,IZ,Nat.reduceAdd,Nat.reduceSub,Kn,Ko,Kq,Kr])
 repeat (first|(with_reducible first|refine ah.up ?_|refine fun (K:AK) hK=> ?_|refine wD ?_|(refine hK _ ?_;clear hK K))|simp only [go_sem,e1]|with_reducible refine wA ?_|clear hK K)
 refine aZ (ι:=Nat) (fun i=>[(0, .an 6 (l.map aN++marksOf dy) l.length),(1, .an 6 (l.map aN) l.length),(4, .v (.bool false)),(5, .an 6 (l.map aN++marksOf dy) (l.length+12)),(6, .v (.int .i64 i))]) (fun _=>[]) (fun i=>l.length+12 - i) (fun i=>i≤l.length+12) 0 (by omega) ?_ ?_
 ·(refine au ?_ ?_ ?_<;>simp only [aD,Ks,Kt,Kn,Ko,bu,bt,AV.v.injEq,Value.int.injEq,Value.bool.injEq,Value.string.injEq,AV.vec.injEq,AV.ptr.injEq,true_or,or_true,false_or,or_false,ab.mk.injEq,forall_eq_apply_imp_iff,forall_eq,forall_eq',go_sem])
  rfl
 ·intro i hi K hK
  simp only [aD,Ks,Kt,Kn,Ko,go_sem]
  repeat (first|(with_reducible first|refine ah.up ?_|refine fun (K:AK) hK=> ?_|refine wD ?_|(refine hK _ ?_;clear hK K))|simp only [go_sem]|with_reducible refine wA ?_|clear hK K)
  refine aO.part (fun h=> ?_) (fun h=> ?_)
  ·have hlt:i<l.length+12:=by (try simp only [decide_eq_true_eq,decide_eq_false_iff_not,Kw,Kx] at h);omega
   have eW:=ar (k:=i) (by omega)
   rcases I2 i l.length with q|q
   ·have g1:decide ((i:Int)<(l.length:Int))=true:=by simpa using q
    have g2:decide ((l.length:Int)≤(i:Int))=false:=by simpa using q
    have eG:=nV aN l (marksOf dy) i q
    have eH:=getD_map aN l i [] q
    simp only [aN] at eG eH
    repeat (first|(with_reducible first|refine ah.up ?_|refine fun (K:AK) hK=> ?_|refine wD ?_|(refine hK _ ?_;clear hK K))|simp only [go_sem,g1,g2,eG,eH,eW,Go.undef]|with_reducible refine wA ?_|clear hK K)
    exact aC.mk (i+1) (by omega) (by omega) (by (refine au ?_ ?_ ?_<;>simp only [aD,Ks,Kt,Kn,Ko,bu,bt,AV.v.injEq,Value.int.injEq,Value.bool.injEq,Value.string.injEq,AV.vec.injEq,AV.ptr.injEq,true_or,or_true,false_or,or_false,ab.mk.injEq,forall_eq_apply_imp_iff,forall_eq,forall_eq',go_sem]))
   ·obtain ⟨j,hj⟩: ∃j,i=l.length+j:=⟨i - l.length,by omega⟩
    have g1:decide ((i:Int)<(l.length:Int))=false:=decide_eq_false (by omega)
    have g2:decide ((l.length:Int)≤(i:Int))=true:=decide_eq_true (by omega)
    have eS:IntKind.i64.wrap ((i:Int) - (l.length:Int))=(j:Int):=by rw [cL (by omega) (by omega)];omega
    have eG:(l.map aN++marksOf dy).getD i []=dy j:=by rw [hj];exact nI aN l dy j (by omega)
    have M:=xk j (by omega)
    simp only [dy,pN] at M eG
    repeat (first|(with_reducible first|refine ah.up ?_|refine fun (K:AK) hK=> ?_|refine wD ?_|(refine hK _ ?_;clear hK K))|simp only [go_sem,g1,g2,eG,eS,eW,Go.undef]|with_reducible refine wA ?_|clear hK K)
    refine aw.one M ?_
    repeat (first|(with_reducible first|refine ah.up ?_|refine fun (K:AK) hK=> ?_|refine wD ?_|(refine hK _ ?_;clear hK K))|simp only [go_sem,g1,g2,eG,eS,eW,Go.undef]|with_reducible refine wA ?_|clear hK K)
    exact aC.mk (i+1) (by omega) (by omega) (by (refine au ?_ ?_ ?_<;>simp only [aD,Ks,Kt,Kn,Ko,bu,bt,AV.v.injEq,Value.int.injEq,Value.bool.injEq,Value.string.injEq,AV.vec.injEq,AV.ptr.injEq,true_or,or_true,false_or,or_false,ab.mk.injEq,forall_eq_apply_imp_iff,forall_eq,forall_eq',go_sem]))
  ·repeat (first|(with_reducible first|refine ah.up ?_|refine fun (K:AK) hK=> ?_|refine wD ?_|(refine hK _ ?_;clear hK K))|simp only [go_sem]|with_reducible refine wA ?_|clear hK K)
theorem qd (q:dF):ai Tryz.prog 63 [.agg (fK q), .agg (bI q)] (.v (.bool true)):=by
 have S:ai Tryz.prog 63 [.agg (bI q), .agg (bI q)] (.v (.bool (bh q q))):=
  .fq (by kernel_rfl) (by simp only [bB,AV.wf,ff,Km]) (fun D nu w vargs h=>by
   obtain ⟨x,y,rfl,hx,hy⟩:=ja h
   obtain ⟨cx,rfl,kx⟩:=iV hx
   obtain ⟨cy,rfl,ky⟩:=iV hy
   exact qu q q cx cy w kx ky)
 rw [sO] at S
 exact S.le (by simp only [bB,AV.wf,lN,ff,Km]) (.cons (jX q).agg (.cons (.refl _) .nil))
set_option maxRecDepth 100000 in
set_option maxHeartbeats 4000000 in
theorem jO (q:dF) (h:q.lens 1000000):ai Tryz.prog 29 [.agg (fK q), .agg (bI q)] (.v (.bool true)):=by
 have S:=qd q
 have C1:=pW q.ao h.1 h.2.2.2
 have C2:=Cg q.conds h.2.1
 have C3:=Db q.ret h.2.2.1
 simp only [bI,fK] at S ⊢
 (refine ai.enter Tryz.func29 rfl (by kernel_rfl) (by kernel_rfl) rfl (by first|rfl|(simp only [go_sem,Km,Kh,Kj])) (by first|rfl|(simp only [go_sem,Km,Kh,Kj])) ?_;simp only [Tryz.ntmps29,Tryz.results29,I5,IZ,Nat.reduceAdd,Nat.reduceSub,Kn,Ko,Kq,Kr])
 repeat (first|(with_reducible first|refine ah.up ?_|refine fun (K:AK) hK=> ?_|(refine hK _ ?_;clear hK K))|simp only [go_sem]|clear hK K)
 refine aj.one S ?_
 repeat (first|(with_reducible first|refine ah.up ?_|refine fun (K:AK) hK=> ?_|(refine hK _ ?_;clear hK K))|simp only [go_sem]|clear hK K)
 refine aj.one C1 ?_
 repeat (first|(with_reducible first|refine ah.up ?_|refine fun (K:AK) hK=> ?_|(refine hK _ ?_;clear hK K))|simp only [go_sem]|clear hK K)
 refine aj.one C2 ?_
 repeat (first|(with_reducible first|refine ah.up ?_|refine fun (K:AK) hK=> ?_|(refine hK _ ?_;clear hK K))|simp only [go_sem]|clear hK K)
 refine aj.one C3 ?_
 repeat (first|(with_reducible first|refine ah.up ?_|refine fun (K:AK) hK=> ?_|(refine hK _ ?_;clear hK K))|simp only [go_sem]|clear hK K)
end Go.Proofs.YtldnlbcibmmbbaaGreat
