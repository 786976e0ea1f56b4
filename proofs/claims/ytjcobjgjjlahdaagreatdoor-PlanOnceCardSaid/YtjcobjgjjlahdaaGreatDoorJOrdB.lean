/- texts of one claim, one behind the other. -/
import Derived.Test.YtjcobjgjjlahdaaGreatDoorJAbsV
import Derived.Test.YtjcobjgjjlahdaaGreatDoorJChk3
import Derived.Test.YtjcobjgjjlahdaaGreatDoorJEvery
import Derived.Test.YtjcobjgjjlahdaaGreatDoorJVerts
import Derived.Shelf.Sort.Plain
import Derived.Shelf.Slices.CompactI
import Derived.Shelf.Slices.In.SortNone
import Derived.Shelf.Spec.SlicesGrow
import Derived.Test.YtjcobjgjjlahdaaGreatDoorRows
import Derived.LaidMore
import Derived.OpenShut
import Derived.Shelf.SlicesE.DeleteFunc
set_option linter.unusedSimpArgs false
set_option linter.unusedVariables false
set_option maxRecDepth 100000
set_option maxHeartbeats 16000000
open Bool renaming and_self -> Tg, and_true -> SA, true_and -> SD, not_eq_eq_eq_not -> Tn, false_eq_true -> SV, eq_false_or_eq_true -> Tu, and_eq_true -> RY
open Int renaming natCast_inj -> To, ofNat_lt -> Tp, ofNat_le -> Tq
open List renaming length_cons -> Rg, length_nil -> Q9, replicate_succ -> Ti, replicate_zero -> Tj, cons_append -> Tl, nil_append -> Tm, take_succ_eq_append_getElem -> SR, foldl_cons -> SI, foldl_nil -> SL, getElem?_eq_getElem -> Rp, getElem?_eq_some_iff -> Ra, length_map -> R5, take_length -> Tr, length_append -> Rf, eq_nil_of_length_eq_zero -> RM, mem_flatMap -> Tt, mem_cons_self -> Sd, mem_cons_of_mem -> Sb, all_eq_true -> Sg, mem_cons -> SZ, drop_eq_getElem_cons -> Ss, mem_append_left -> TA, take_of_length_le -> TB
open BitVec renaming eq_of_toNat_eq -> Tv, lt_of_getLsbD -> Tw, eq_of_getLsbD_eq -> Tx, getLsbD_and -> Ty, getLsbD_neg -> Tz
open Option.some renaming inj -> Q4, injEq -> Rl
namespace Go.Proofs.YtjcobjgjjlahdaaGreatDoor
open Go.RowKit
section
section
variable {P:Program}
theorem bK.MU {f:FuncId} {args:List AV} {r r':AV} {o':List (Option aa)} (h:bK P f args [] r o') (n:Nat) {p:Prop} (hz:gk o' n r=some (p,r')) (hp:p) (hw:bn 0 args=true) (hw':r'.wf 0=true):ag P f args r':=by
 refine ⟨⟨hw,hw'⟩,h.1,fun D nu w vargs hro hra=>(h.2 D nu w vargs hro hra).mono ?_⟩;rintro e w' ⟨v,nu',o'',r'',rfl,hm,hro',hx,rfl,rfl⟩;exact ⟨v,nu',[],r',rfl,⟨hm.os,hm.tape,hm.output,hm.size,fun id len hh=>by obtain ⟨ob,h1,_⟩:=hh;simp at h1,fun b hb hno=>⟨(hm.keep b hb (ba _ _)).1,ba _ _⟩⟩,(.nil _ _ _ hro'.up (hro'.gl.nil (fun _ _ h=>h))),(iZ hro' n).1 _ _ _ _ hz hp hx,rfl,rfl⟩
end
theorem yQ (x y:Ex):ag Tryz.prog 122 [.agg (bg x), .agg (bg y)] (.v (.bool (du x y))):=
 .ki (by kernel_rfl) (by simp only [bn,AV.wf,kE,Tg]) (fun D nu w vargs h=>by
  obtain ⟨a,b,rfl,ha,hb⟩:=mF h;obtain ⟨ca,rfl,ka⟩:=lS ha;obtain ⟨cb,rfl,kb⟩:=lS hb
  exact tp x y ca cb w (qP x ca ka) (qP y cb kb))
theorem Cy (p q:bQ):ag Tryz.prog 144 [.agg (bM p), .agg (bM q)] (.v (.bool (de p q))):=by
 have C:=yQ p.expr q.expr;obtain ⟨f1,t1,h1,l1,n1,⟨k1,s1,x1⟩⟩:=p;obtain ⟨f2,t2,h2,l2,n2,⟨k2,s2,x2⟩⟩:=q;simp only [bI,Ex.kind,Ex.label,Ex.kids] at C;simp only [bM,Ex.kind,Ex.label,Ex.kids]
 (refine ag.enter Tryz.func144 rfl (by kernel_rfl) (by kernel_rfl) rfl (by first|rfl|(simp only [go_sem,Tg,SA,SD])) (by first|rfl|(simp only [go_sem,Tg,SA,SD])) ?_;simp only [Tryz.ntmps144,Tryz.results144,Rg,Q9,Nat.reduceAdd,Nat.reduceSub,Ti,Tj,Tl,Tm])
 repeat' (first|(with_reducible first|refine af.up ?_|refine fun (K:AK) hK=> ?_|(refine hK _ ?_;clear hK K))|simp only [go_sem]|clear hK K|(with_reducible refine ab.one (by assumption) ?_)|(with_reducible refine aQ.one (by assumption) ?_)|(refine cL.part (fun hb=> ?_) (fun hb=> ?_)<;>simp only [hb,go_sem])|(refine cL.part (fun hb=> ?_) (fun hb=> ?_))|(with_reducible refine dy.mk ?_ ?_))
 all_goals (refine congrArg Value.bool ?_;simp_all [de,cf,kV])
def au (l:List Nat):List (List AV):=l.map (fun k:Nat=>[.v (.int .i64 (k:Int))])
theorem vI {ps:List bQ} {i j:Nat} (h:i<ps.length) (hj:j<i):(ps.take (j+1)).any (fun a=>de a ps[i])=((ps.take j).any (fun a=>de a ps[i])||de (ps[j]'(by omega)) ps[i]):=by
 rw [SR (by omega),List.any_append];simp
theorem ze (q:fg) (hl:q.aj.length<=1000000):gy Tryz.prog 143 [.vp (cd q)] [] (au (gD q.aj)):=by
 (refine gy.enter Tryz.func143 rfl (by kernel_rfl) (by kernel_rfl) rfl (fun l=> ?_);simp only [Tryz.ntmps143,Tryz.results143,Rg,Q9,Nat.reduceAdd,Nat.reduceSub,Ti,Tj,Tl,Tm])
 obtain ⟨ps,cs,rs,ra,sl⟩:=q;simp only [cd,gD] at *
 repeat (first|(with_reducible first|refine af.up ?_|refine fun (K:AK) hK=> ?_|(refine hK _ ?_;clear hK K))|simp only [go_sem]|with_reducible refine wA ?_|clear hK K)
 refine fl (ι:=Nat) 11 (fun i=>[(10, .v (.int .i64 i)),(3, .undef),(4, .undef),(6, .undef)]) (fun i=>[]) (fun i=> .run l (au (nE ps i))) (fun i=>ps.length - i) (fun i=>i<=ps.length) 0 (by omega) ?_ ?_
 ·(refine ak ?_ ?_ ?_<;>simp only [aR,SI,SL,Ti,Tj,aX,aW,AV.v.injEq,Value.int.injEq,Value.bool.injEq,Value.string.injEq,AV.vec.injEq,AV.ptr.injEq,true_or,or_true,false_or,or_false,aa.mk.injEq,forall_eq_apply_imp_iff,forall_eq,forall_eq',go_sem])
  rfl
 ·rintro i hi K hK
  repeat (first|(with_reducible first|refine af.up ?_|refine fun (K:AK) hK=> ?_|(refine hK _ ?_;clear hK K))|simp only [go_sem]|with_reducible refine wA ?_|clear hK K)
  refine cL.part (fun h=> ?_) (fun h=> ?_)
  ·have hlt:i<ps.length:=by (try simp only [bne_iff_ne,ne_eq,bne_eq_false_iff_eq,beq_iff_eq,beq_eq_false_iff_ne,decide_eq_true_eq,decide_eq_false_iff_not,Tn,To,Tp,Tq] at h);omega
   have eW:=aD (k:=i) (by omega);have eG:=getD_map bM ps i [] hlt;have eY:=Ir hlt;simp only [bM] at eG
   have hA:gz ps i=(ps.take i).any (fun a=>de a ps[i]):=by rw [gz,Rp hlt]
   repeat (first|(with_reducible first|refine af.up ?_|refine fun (K:AK) hK=> ?_|(refine hK _ ?_;clear hK K))|simp only [go_sem,eG]|with_reducible refine wA ?_|clear hK K)
   refine fl (ι:=Nat) 20 (fun j=>[(20, .v (.int .i64 j)),(6, .undef)]) (fun j=>[some ⟨40,8,false,[bM ps[i]]⟩]) (fun j=> .run l (au (nE ps i))) (fun j=>i - j) (fun j=>j<=i∧(ps.take j).any (fun a=>de a ps[i])=false) 0 ⟨Nat.zero_le _,rfl⟩ ?_ ?_
   ·(refine ak ?_ ?_ ?_<;>simp only [aR,SI,SL,Ti,Tj,aX,aW,AV.v.injEq,Value.int.injEq,Value.bool.injEq,Value.string.injEq,AV.vec.injEq,AV.ptr.injEq,true_or,or_true,false_or,or_false,aa.mk.injEq,forall_eq_apply_imp_iff,forall_eq,forall_eq',go_sem])
    all_goals first|rfl|skip
   rintro j ⟨hj,hP⟩ K hK
   repeat (first|(with_reducible first|refine af.up ?_|refine fun (K:AK) hK=> ?_|(refine hK _ ?_;clear hK K))|simp only [go_sem]|with_reducible refine wA ?_|clear hK K)
   refine cL.part (fun h2=> ?_) (fun h2=> ?_)
   ·have hji:j<i:=by (try simp only [bne_iff_ne,ne_eq,bne_eq_false_iff_eq,beq_iff_eq,beq_eq_false_iff_ne,decide_eq_true_eq,decide_eq_false_iff_not,Tn,To,Tp,Tq] at h2);omega
    have eW2:=aD (k:=j) (by omega);have eG2:=getD_map bM ps j [] (by omega);have C:=Cy ps[j] ps[i];have hS:=vI hlt hji;rw [hP] at hS;simp only [bM] at C eG2
    repeat (first|(with_reducible first|refine af.up ?_|refine fun (K:AK) hK=> ?_|(refine hK _ ?_;clear hK K))|simp only [go_sem,h2,eG2]|with_reducible refine wA ?_|clear hK K)
    refine ab.one C ?_
    repeat (first|(with_reducible first|refine af.up ?_|refine fun (K:AK) hK=> ?_|(refine hK _ ?_;clear hK K))|simp only [go_sem]|with_reducible refine wA ?_|clear hK K)
    refine cL.part (fun h3=> ?_) (fun h3=> ?_)
    ·have hT:gz ps i=true:=by
      rw [hA,List.any_eq_true];exact ⟨ps[j],List.mem_take_iff_getElem.2 ⟨j,by omega,rfl⟩,h3⟩
     rw [hT] at eY;simp only [if_true] at eY
     repeat (first|(with_reducible first|refine af.up ?_|refine fun (K:AK) hK=> ?_|(refine hK _ ?_;clear hK K))|simp only [go_sem,eW,eY]|with_reducible refine wA ?_|clear hK K)
     exact aM.mk (i+1) (by omega) (by omega) (by (refine ak ?_ ?_ ?_<;>simp only [aR,SI,SL,Ti,Tj,aX,aW,AV.v.injEq,Value.int.injEq,Value.bool.injEq,Value.string.injEq,AV.vec.injEq,AV.ptr.injEq,true_or,or_true,false_or,or_false,aa.mk.injEq,forall_eq_apply_imp_iff,forall_eq,forall_eq',go_sem]))
    ·repeat (first|(with_reducible first|refine af.up ?_|refine fun (K:AK) hK=> ?_|(refine hK _ ?_;clear hK K))|simp only [go_sem,eW2]|with_reducible refine wA ?_|clear hK K)
     exact aM.mk (j+1) ⟨by omega,by rw [hS,h3];rfl⟩ (by omega) (by (refine ak ?_ ?_ ?_<;>simp only [aR,SI,SL,Ti,Tj,aX,aW,AV.v.injEq,Value.int.injEq,Value.bool.injEq,Value.string.injEq,AV.vec.injEq,AV.ptr.injEq,true_or,or_true,false_or,or_false,aa.mk.injEq,forall_eq_apply_imp_iff,forall_eq,forall_eq',go_sem]))
   ·have hji:j=i:=by (try simp only [bne_iff_ne,ne_eq,bne_eq_false_iff_eq,beq_iff_eq,beq_eq_false_iff_ne,decide_eq_true_eq,decide_eq_false_iff_not,Tn,To,Tp,Tq] at h2);omega
    rw [hji] at hP;rw [hA,hP] at eY;simp only [SV,if_false,au,List.map_cons] at eY;simp only [au,eY]
    repeat' (first|(with_reducible first|refine af.up ?_|refine fun (K:AK) hK=> ?_|(refine hK _ ?_;clear hK K))|simp only [go_sem,eW,Go.undef]|with_reducible refine wA ?_|clear hK K|(with_reducible refine ab.one (by assumption) ?_)|(with_reducible refine aQ.one (by assumption) ?_)|(refine cL.part (fun hb=> ?_) (fun hb=> ?_)<;>simp only [hb,go_sem,eW,Go.undef])|(refine cL.part (fun hb=> ?_) (fun hb=> ?_))|(with_reducible refine dy.mk ?_ ?_))
    ·exact aM.mk (i+1) (by omega) (by omega) (by (refine ak ?_ ?_ ?_<;>simp only [aR,SI,SL,Ti,Tj,aX,aW,AV.v.injEq,Value.int.injEq,Value.bool.injEq,Value.string.injEq,AV.vec.injEq,AV.ptr.injEq,true_or,or_true,false_or,or_false,aa.mk.injEq,forall_eq_apply_imp_iff,forall_eq,forall_eq',go_sem]))
    ·exact .inr trivial
  ·have e1:nE ps i=[]:=by rw [show i=ps.length by (try simp only [bne_iff_ne,ne_eq,bne_eq_false_iff_eq,beq_iff_eq,beq_eq_false_iff_ne,decide_eq_true_eq,decide_eq_false_iff_not,Tn,To,Tp,Tq] at h);omega,Fj]
   simp only [e1,au,List.map_nil]
   repeat (first|(with_reducible first|refine af.up ?_|refine fun (K:AK) hK=> ?_|(refine hK _ ?_;clear hK K))|simp only [go_sem]|with_reducible refine wA ?_|clear hK K)
   exact .inl trivial
theorem Fi (q:fg):ag Tryz.prog 106 [.agg (cd q)] (.fn 143 [] [.vp (cd q)]):=by
 obtain ⟨ps,cs,rs,ra,sl⟩:=q;simp only [cd] at *
 (refine ag.enter Tryz.func106 rfl (by kernel_rfl) (by kernel_rfl) rfl (by first|rfl|(simp only [go_sem,Tg,SA,SD])) (by first|rfl|(simp only [go_sem,Tg,SA,SD])) ?_;simp only [Tryz.ntmps106,Tryz.results106,Rg,Q9,Nat.reduceAdd,Nat.reduceSub,Ti,Tj,Tl,Tm])
 repeat' (first|(with_reducible first|refine af.up ?_|refine fun (K:AK) hK=> ?_|(refine hK _ ?_;clear hK K))|simp only [go_sem]|clear hK K|(with_reducible refine ab.one (by assumption) ?_)|(with_reducible refine aQ.one (by assumption) ?_)|(refine cL.part (fun hb=> ?_) (fun hb=> ?_)<;>simp only [hb,go_sem])|(refine cL.part (fun hb=> ?_) (fun hb=> ?_))|(with_reducible refine dy.mk ?_ ?_))
 (refine kY.of 40 rfl ?_;simp only [go_sem])
theorem tM {gf:FuncId} {caps:List AV} (l:List Nat) (hl:l.length<=1000000) (hs:gy Tryz.prog gf caps [] (au l)) (hw:bn 0 caps=true) :
  bK Tryz.prog 142 [.v (.slice none 0 0), .fn gf [] caps] [] (.vec 1 l.length) [none,some ⟨3,1,true,au l⟩]:=by
 (refine bK.enter Tryz.func142 rfl (by kernel_rfl) (by kernel_rfl) rfl ?_;simp only [Tryz.ntmps142,Tryz.results142,Rg,Q9,Nat.reduceAdd,Nat.reduceSub,Ti,Tj,Tl,Tm])
 repeat (first|(with_reducible first|refine af.up ?_|refine fun (K:AK) hK=> ?_|(refine hK _ ?_;clear hK K))|simp only [go_sem]|with_reducible refine wA ?_|clear hK K)
 refine iW (bY (k:=0) (i:=0) (j:=0) 3 1 (by decide) rfl (Nat.zero_lt_succ _) rfl rfl) (by kernel_rfl) ?_;simp only [Rg,Q9,Nat.reduceAdd,Tl,Tm,List.set_cons_zero]
 refine fP hs 5 (fun k=>[some ⟨75,1,false,[[.vec 1 k]]⟩,some ⟨3,1,true,au (l.take k)⟩]) (fun k=>k<=l.length) (Nat.zero_le _) ?_ ?_ ?_ (by kernel_rfl) (by kernel_rfl) ?_ ?_ ?_
 ·repeat (first|(with_reducible first|refine af.up ?_|refine fun (K:AK) hK=> ?_|(refine hK _ ?_;clear hK K))|simp only [go_sem]|with_reducible refine wA ?_|clear hK K)
 ·exact hw
 ·(refine ak ?_ ?_ ?_<;>simp only [aR,SI,SL,Ti,Tj,aX,aW,AV.v.injEq,Value.int.injEq,Value.bool.injEq,Value.string.injEq,AV.vec.injEq,AV.ptr.injEq,true_or,or_true,false_or,or_false,aa.mk.injEq,forall_eq_apply_imp_iff,forall_eq,forall_eq',go_sem])
  ·exact iv (by omega) _ hw
  ·exact ⟨rfl,rfl⟩
 ·intro x hx;obtain ⟨o,_,rfl⟩:=List.mem_map.1 hx
  rfl
 ·intro k x hk hx
  obtain ⟨hlt,hx⟩: ∃h:k<l.length,x=[.v (.int .i64 (l[k]:Int))]:=by
   obtain ⟨h1,h2⟩:=Ra.1 hx;simp only [au,R5] at h1;exact ⟨h1,by rw [<-h2];simp [au]⟩
  subst hx;have hw2:bn 2 caps=true:=iv (by omega) _ hw
  have eL:(au (l.take k)).length=k:=by simp [au];omega
  have eM:au (l.take (k+1))=au (l.take k)++[[.v (.int .i64 (l[k]:Int))]]:=by rw [au,au,SR hlt,List.map_append];rfl
  repeat (first|(with_reducible first|refine af.up ?_|refine fun (K:AK) hK=> ?_|(refine hK _ ?_;clear hK K))|simp only [go_sem,eL]|with_reducible refine wA ?_|clear hK K)
  (refine ak ?_ ?_ ?_<;>simp only [aR,SI,SL,Ti,Tj,aX,aW,AV.v.injEq,Value.int.injEq,Value.bool.injEq,Value.string.injEq,AV.vec.injEq,AV.ptr.injEq,true_or,or_true,false_or,or_false,aa.mk.injEq,forall_eq_apply_imp_iff,forall_eq,forall_eq',go_sem])
  all_goals first|exact hw2|exact eM.symm|exact ⟨eM.symm,bE _ (fun _=>rfl) _⟩
 ·intro hk
  have eL:(au l).length=l.length:=by simp [au]
  simp only [eL];have e1:l.take l.length=l:=Tr
  repeat (first|(with_reducible first|refine af.up ?_|refine fun (K:AK) hK=> ?_|(refine hK _ ?_;clear hK K))|simp only [go_sem,e1]|with_reducible refine wA ?_|clear hK K)
  (refine ⟨?_, ?_, ?_⟩<;>simp only [aX,aW,AV.v.injEq,Value.int.injEq,Value.bool.injEq,Value.string.injEq,AV.vec.injEq,AV.ptr.injEq,true_or,or_true,false_or,or_false,aa.mk.injEq,forall_eq_apply_imp_iff,forall_eq,forall_eq',go_sem])
  exact bE _ (fun _=>rfl) _
theorem yJ {gf:FuncId} {caps:List AV} (l:List Nat) (hl:l.length<=1000000) (hs:gy Tryz.prog gf caps [] (au l)) (hw:bn 0 caps=true) :
  bK Tryz.prog 105 [.fn gf [] caps] [] (.vec 1 l.length) [none,some ⟨3,1,true,au l⟩]:=by
 have C:=tM l hl hs hw
 (refine bK.enter Tryz.func105 rfl (by kernel_rfl) (by kernel_rfl) rfl ?_;simp only [Tryz.ntmps105,Tryz.results105,Rg,Q9,Nat.reduceAdd,Nat.reduceSub,Ti,Tj,Tl,Tm])
 repeat (first|(with_reducible first|refine af.up ?_|refine fun (K:AK) hK=> ?_|(refine hK _ ?_;clear hK K))|simp only [go_sem]|with_reducible refine wA ?_|clear hK K)
 refine ab.fr [] C (by simp) ?_ ?_ ?_ ?_ ?_
 ·rfl
 ·exact (dU _ (.v (.slice none 0 0) :: .fn gf [] caps :: []) (by simp only [bn,AV.wf,hw,Tg])).symm
 ·simp only [Q9,bn,AV.wf,hw,Tg]
 ·intro k ob hk;simp at hk
 repeat (first|(with_reducible first|refine af.up ?_|refine fun (K:AK) hK=> ?_|(refine hK _ ?_;clear hK K))|simp only [go_sem]|with_reducible refine wA ?_|clear hK K)
 (refine ⟨?_, ?_, ?_⟩<;>simp only [aX,aW,AV.v.injEq,Value.int.injEq,Value.bool.injEq,Value.string.injEq,AV.vec.injEq,AV.ptr.injEq,true_or,or_true,false_or,or_false,aa.mk.injEq,forall_eq_apply_imp_iff,forall_eq,forall_eq',go_sem])
 exact ⟨bS _ _ (bE _ (fun _=>rfl) _),bE _ (fun _=>rfl) _⟩
theorem DJ (q:fg) (hp:q.aj.length<=1000000) (hl:(gD q.aj).length<=1000000) :
  bK Tryz.prog 66 [.agg (cd q)] [] (.vec 2 (gD q.aj).length) [none,none,some ⟨3,1,true,au (gD q.aj)⟩]:=by
 have N:=Fi q;have C:=yJ (gD q.aj) hl (ze q hp) (by simp only [go_sem]);obtain ⟨ps,cs,rs,ra,sl⟩:=q;simp only [cd] at *
 (refine bK.enter Tryz.func66 rfl (by kernel_rfl) (by kernel_rfl) rfl ?_;simp only [Tryz.ntmps66,Tryz.results66,Rg,Q9,Nat.reduceAdd,Nat.reduceSub,Ti,Tj,Tl,Tm])
 repeat (first|(with_reducible first|refine af.up ?_|refine fun (K:AK) hK=> ?_|(refine hK _ ?_;clear hK K))|simp only [go_sem]|with_reducible refine wA ?_|clear hK K)
 refine ab.one N ?_
 repeat (first|(with_reducible first|refine af.up ?_|refine fun (K:AK) hK=> ?_|(refine hK _ ?_;clear hK K))|simp only [go_sem]|with_reducible refine wA ?_|clear hK K)
 refine ab.fr [] C (by simp) ?_ ?_ ?_ ?_ ?_
 ·rfl
 ·exact (dU _ _ (by simp only [go_sem])).symm
 ·simp only [Q9,go_sem]
 ·intro k ob hk;simp at hk
 repeat (first|(with_reducible first|refine af.up ?_|refine fun (K:AK) hK=> ?_|(refine hK _ ?_;clear hK K))|simp only [go_sem]|with_reducible refine wA ?_|clear hK K)
 (refine ⟨?_, ?_, ?_⟩<;>simp only [aX,aW,AV.v.injEq,Value.int.injEq,Value.bool.injEq,Value.string.injEq,AV.vec.injEq,AV.ptr.injEq,true_or,or_true,false_or,or_false,aa.mk.injEq,forall_eq_apply_imp_iff,forall_eq,forall_eq',go_sem])
 exact ⟨bS _ _ (bE _ (fun _=>rfl) _),bE _ (fun _=>rfl) _⟩
theorem Ek (p:bQ):ag Tryz.prog 72 [.agg (bM p)] (.aC 1 ((aS p).map encS) (aS p).length):=by
 obtain ⟨f1,t1,h1,l1,n1,⟨k1,s1,x1⟩⟩:=p;simp only [bM,aS] at *;cases h1<;>cases hn:fb n1
 all_goals
  simp only [Bool.not_true,Bool.not_false,SA,Bool.and_false,Tg,if_true,if_false,SV]
  (refine ag.enter Tryz.func72 rfl (by kernel_rfl) (by kernel_rfl) rfl (by first|rfl|(simp only [go_sem,Tg,SA,SD])) (by first|rfl|(simp only [go_sem,Tg,SA,SD])) ?_;simp only [Tryz.ntmps72,Tryz.results72,Rg,Q9,Nat.reduceAdd,Nat.reduceSub,Ti,Tj,Tl,Tm])
  repeat' (first|(with_reducible first|refine af.up ?_|refine fun (K:AK) hK=> ?_|(refine hK _ ?_;clear hK K))|simp only [go_sem]|clear hK K|(with_reducible refine ab.one (by assumption) ?_)|(with_reducible refine aQ.one (by assumption) ?_)|(refine cL.part (fun hb=> ?_) (fun hb=> ?_)<;>simp only [hb,go_sem])|(refine cL.part (fun hb=> ?_) (fun hb=> ?_))|(with_reducible refine dy.mk ?_ ?_))
 all_goals (rw [kV,hn] at *)
 all_goals try contradiction
 all_goals (refine kY.of 40 rfl ?_;simp only [go_sem])
theorem Gf {k:Int} (h1: -9223372036854775808<=k) (h2:k<9223372036854775808):IntKind.u64.wrap k=if 0<=k then k else k+18446744073709551616:=by
 simp only [IntKind.wrap,IntKind.bits,IntKind.signed,Bool.false_and,SV,if_false]
 split<;>omega
theorem M1 {k:Int} {n:Nat} (h1: -9223372036854775808<=k) (h2:k<9223372036854775808) (hn:n<=1000000):decide (IntKind.u64.wrap (n:Int)<=IntKind.u64.wrap k) = !decide (0<=k∧k<n):=by
 rw [Gf h1 h2,Gf (k:=(n:Int)) (by omega) (by omega),if_pos (Int.natCast_nonneg n),Bool.eq_iff_iff];simp only [Bool.not_eq_true',decide_eq_false_iff_not,decide_eq_true_eq]
 split<;>omega
theorem zZ (q:fg) {gf:FuncId} {caps:List AV} (ks:List Int) (hp:q.aj.length<=1000000) (hl:ks.length<=1000000) (hk: ∀k∈ks, -9223372036854775808<=k∧k<9223372036854775808) (hs:gy Tryz.prog gf caps [] (ks.map encI)) (hw:bn 0 caps=true) :
  o8 Tryz.prog 33 [.agg (cd q), .fn gf [] caps] (aK (bA q.aj ks)):=by
 obtain ⟨ps,cs,rs,ra,sl⟩:=q;simp only [cd] at *
 (refine o8.enter Tryz.func33 rfl (by kernel_rfl) (by kernel_rfl) rfl (by simp only [go_sem,bn,AV.wf,Tg,SA,SD,hw]) (by simp only [go_sem,bn,AV.wf,aA,Tg,SA,SD,hw]) ?_;simp only [Tryz.ntmps33,Tryz.results33,Rg,Q9,Nat.reduceAdd,Nat.reduceSub,Ti,Tj,Tl,Tm])
 repeat (first|(with_reducible first|refine af.up ?_|refine fun (K:AK) hK=> ?_|(refine hK _ ?_;clear hK K))|simp only [go_sem]|with_reducible refine wA ?_|clear hK K)
 refine iW (bY (k:=1) (i:=0) (j:=0) 9 1 (by decide) rfl (by decide) rfl rfl) (by kernel_rfl) ?_;simp only [Rg,Q9,Nat.reduceAdd,Tl,Tm,List.set_cons_zero,List.set_cons_succ]
 refine fP hs 11 (fun k=>[some ⟨26,5,false,[[.aC 8 (ps.map bM) ps.length, .aC 13 (cs.map aH) cs.length, .aC 6 (rs.map cz) rs.length, .v (.int .i64 ra), .v (.int .i64 sl)]]⟩,some ⟨43,1,false,[[.vec 2 (bA ps (ks.take k)).length]]⟩,some ⟨9,1,true,(bA ps (ks.take k)).map encS⟩]) (fun _=>True) trivial ?_ ?_ ?_ (by kernel_rfl) (by kernel_rfl) ?_ ?_ ?_
 ·repeat (first|(with_reducible first|refine af.up ?_|refine fun (K:AK) hK=> ?_|(refine hK _ ?_;clear hK K))|simp only [go_sem]|with_reducible refine wA ?_|clear hK K)
 ·exact hw
 ·(refine ak ?_ ?_ ?_<;>simp only [aR,SI,SL,Ti,Tj,aX,aW,AV.v.injEq,Value.int.injEq,Value.bool.injEq,Value.string.injEq,AV.vec.injEq,AV.ptr.injEq,true_or,or_true,false_or,or_false,aa.mk.injEq,forall_eq_apply_imp_iff,forall_eq,forall_eq',go_sem])
  ·exact iv (by omega) _ hw
  ·exact ⟨rfl,rfl⟩
 ·intro x hx;obtain ⟨o,_,rfl⟩:=List.mem_map.1 hx
  rfl
 ·intro k x _ hx
  obtain ⟨hlt,hx⟩: ∃h:k<ks.length,x=encI ks[k]:=by
   obtain ⟨h1,h2⟩:=Ra.1 hx;simp only [R5] at h1;exact ⟨h1,by rw [<-h2];simp⟩
  subst hx;simp only [encI];have hS:=wS ps hlt;have hw3:bn 3 caps=true:=iv (by omega) _ hw;have hkk:=hk ks[k] (List.getElem_mem hlt);have hU:=M1 (k:=ks[k]) hkk.1 hkk.2 hp;generalize ks[k]=kk at hS hkk hU ⊢
  by_cases hin:0<=kk∧kk<ps.length
  ·rw [decide_eq_true hin] at hU
   have hlt2:kk.toNat<ps.length:=by omega
   have eG:=getD_map bM ps kk.toNat [] hlt2;have C:=Ek ps[kk.toNat]
   have hS2:bA ps (ks.take (k+1))=(aS ps[kk.toNat]).foldl aq (bA ps (ks.take k)):=by
    rw [hS,cH,if_pos hin,Rp hlt2]
   generalize ps[kk.toNat]=pp at eG C hS2;have hcl:=gp pp
   have hnl:(bA ps (ks.take k)).length<=3000000:=by have:=zb ps (ks.take k);simp at this;omega
   simp only [bM] at eG C
   repeat (first|(with_reducible first|refine af.up ?_|refine fun (K:AK) hK=> ?_|(refine hK _ ?_;clear hK K))|simp only [go_sem,hU,eG]|with_reducible refine wA ?_|clear hK K)
   refine ab.one C ?_
   repeat (first|(with_reducible first|refine af.up ?_|refine fun (K:AK) hK=> ?_|(refine hK _ ?_;clear hK K))|simp only [go_sem]|with_reducible refine wA ?_|clear hK K)
   generalize hout:bA ps (ks.take k)=out at hS2 hnl ⊢
   have hF: ∀j,j<=(aS pp).length->(((aS pp).take j).foldl aq out).length<=4000000:=fun j hj=>by
    have:=ea ((aS pp).take j) out;simp at this;omega
   refine cV (ι:=Nat) 27 (fun j=>[(26, .v (.int .i64 j)),(7, .undef)]) (fun j=>[some ⟨26,5,false,[[.aC 8 (ps.map bM) ps.length, .aC 13 (cs.map aH) cs.length, .aC 6 (rs.map cz) rs.length, .v (.int .i64 ra), .v (.int .i64 sl)]]⟩,some ⟨43,1,false,[[.vec 2 (((aS pp).take j).foldl aq out).length]]⟩,some ⟨9,1,true,(((aS pp).take j).foldl aq out).map encS⟩]) (fun j=>(aS pp).length - j) (fun j=>j<=(aS pp).length) 0 (Nat.zero_le _) ?_ ?_
   ·(refine ak ?_ ?_ ?_<;>simp only [aR,SI,SL,Ti,Tj,aX,aW,AV.v.injEq,Value.int.injEq,Value.bool.injEq,Value.string.injEq,AV.vec.injEq,AV.ptr.injEq,true_or,or_true,false_or,or_false,aa.mk.injEq,forall_eq_apply_imp_iff,forall_eq,forall_eq',go_sem])
    all_goals first|rfl|exact hw3|exact ⟨hw3,hw3,hw3,rfl⟩|skip
   rintro j hj K hK
   repeat (first|(with_reducible first|refine af.up ?_|refine fun (K:AK) hK=> ?_|(refine hK _ ?_;clear hK K))|simp only [go_sem]|with_reducible refine wA ?_|clear hK K)
   refine cL.part (fun h2=> ?_) (fun h2=> ?_)
   ·have hjl:j<(aS pp).length:=by (try simp only [decide_eq_true_eq,decide_eq_false_iff_not,Tp] at h2);omega
    have eW:=aD (k:=j) (by omega);have eG2:=getD_map encS (aS pp) j [] hjl;have hFj:=hF j hj;have C2:=dR (((aS pp).take j).foldl aq out) (aS pp)[j]
    have hS3:((aS pp).take (j+1)).foldl aq out=aq (((aS pp).take j).foldl aq out) (aS pp)[j]:=by
     rw [SR hjl,List.foldl_append];rfl
    generalize ((aS pp).take j).foldl aq out=fo at hFj C2 hS3 ⊢;generalize (aS pp)[j]=sj at C2 hS3 eG2;simp only [aK] at C2;simp only [encS] at eG2
    repeat (first|(with_reducible first|refine af.up ?_|refine fun (K:AK) hK=> ?_|(refine hK _ ?_;clear hK K))|simp only [go_sem,h2,eG2]|with_reducible refine wA ?_|clear hK K)
    refine ab.x5 C2 6 rfl (by simp only [go_sem,aA,R5]) rfl ?_
    cases hh:hasB fo sj
    ·have eM:(((aS pp).take (j+1)).foldl aq out)=fo++[sj]:=by rw [hS3,aq,hh];rfl
     repeat (first|(with_reducible first|refine af.up ?_|refine fun (K:AK) hK=> ?_|(refine hK _ ?_;clear hK K))|simp only [go_sem,eW]|with_reducible refine wA ?_|clear hK K)
     have eL:(fo++[sj]).length=fo.length+1:=by simp
     have eN:(fo++[sj]).map encS=fo.map encS++[[.v (.string sj)]]:=by simp [encS]
     exact aM.mk (j+1) (by omega) (by omega) (by
      simp only [eM,eL,eN]
      (refine ak ?_ ?_ ?_<;>simp only [aR,SI,SL,Ti,Tj,aX,aW,AV.v.injEq,Value.int.injEq,Value.bool.injEq,Value.string.injEq,AV.vec.injEq,AV.ptr.injEq,true_or,or_true,false_or,or_false,aa.mk.injEq,forall_eq_apply_imp_iff,forall_eq,forall_eq',go_sem])
      all_goals first|rfl|exact hw3|(rw [<-eN];simp only [aA])|skip)
    ·have eM:(((aS pp).take (j+1)).foldl aq out)=fo:=by rw [hS3,aq,hh];rfl
     repeat (first|(with_reducible first|refine af.up ?_|refine fun (K:AK) hK=> ?_|(refine hK _ ?_;clear hK K))|simp only [go_sem,eW]|with_reducible refine wA ?_|clear hK K)
     exact aM.mk (j+1) (by omega) (by omega) (by
      simp only [eM]
      (refine ak ?_ ?_ ?_<;>simp only [aR,SI,SL,Ti,Tj,aX,aW,AV.v.injEq,Value.int.injEq,Value.bool.injEq,Value.string.injEq,AV.vec.injEq,AV.ptr.injEq,true_or,or_true,false_or,or_false,aa.mk.injEq,forall_eq_apply_imp_iff,forall_eq,forall_eq',go_sem])
      all_goals first|rfl|exact hw3|(simp only [aA])|skip)
   ·have hje:j=(aS pp).length:=by (try simp only [decide_eq_true_eq,decide_eq_false_iff_not,Tp] at h2);omega
    rw [hje,Tr] at *
    repeat (first|(with_reducible first|refine af.up ?_|refine fun (K:AK) hK=> ?_|(refine hK _ ?_;clear hK K))|simp only [go_sem,h2]|with_reducible refine wA ?_|clear hK K)
    rw [hS2]
    (refine ak ?_ ?_ ?_<;>simp only [aR,SI,SL,Ti,Tj,aX,aW,AV.v.injEq,Value.int.injEq,Value.bool.injEq,Value.string.injEq,AV.vec.injEq,AV.ptr.injEq,true_or,or_true,false_or,or_false,aa.mk.injEq,forall_eq_apply_imp_iff,forall_eq,forall_eq',go_sem])
    all_goals first|rfl|exact hw3|(simp only [aA])|skip
  ·rw [decide_eq_false hin] at hU
   have hS2:bA ps (ks.take (k+1))=bA ps (ks.take k):=by rw [hS,cH,if_neg hin]
   repeat (first|(with_reducible first|refine af.up ?_|refine fun (K:AK) hK=> ?_|(refine hK _ ?_;clear hK K))|simp only [go_sem,hU]|with_reducible refine wA ?_|clear hK K)
   rw [hS2]
   (refine ak ?_ ?_ ?_<;>simp only [aR,SI,SL,Ti,Tj,aX,aW,AV.v.injEq,Value.int.injEq,Value.bool.injEq,Value.string.injEq,AV.vec.injEq,AV.ptr.injEq,true_or,or_true,false_or,or_false,aa.mk.injEq,forall_eq_apply_imp_iff,forall_eq,forall_eq',go_sem])
   all_goals first|rfl|exact hw3|(simp only [aA])|skip
 ·intro _
  have e1:ks.take (ks.map encI).length=ks:=by rw [R5,Tr]
  repeat (first|(with_reducible first|refine af.up ?_|refine fun (K:AK) hK=> ?_|(refine hK _ ?_;clear hK K))|simp only [go_sem,e1]|with_reducible refine wA ?_|clear hK K)
  rw [Tr];exact Gv.vec (ob:=⟨9,1,true,(bA ps ks).map encS⟩) rfl rfl (R5 _) (CU _ (fun s c hc=>by rw [encS,List.mem_singleton] at hc;exact ⟨_,hc⟩) _)
end
section
attribute [go_sem] Value.oneCell'
def Nk (i:Nat):AV:= .v (.int .i64 ((8000024+i:Nat):Int))
def wQ (i:Nat):List AV:=[Nk i, .v (.string ⟨#[]⟩), .v (.slice none 0 0)]
def rB (f:Nat->List AV):Nat->List (List AV)
 | 0=>[]
 | n+1=>rB f n++[f n]
@[go_sem] theorem wR (f:Nat->List AV): ∀n,(rB f n).length=n
 | 0=>rfl
 | n+1=>by rw [rB,Rf,wR f n];rfl
def marksOf (f:Nat->List AV):List (List AV):=rB f 12
mutual
def sC:Ex->List AV
 | .mk k s l=>[.v (.int .i64 k), .v (.string s), .aC 3 (um l++marksOf wQ) l.length]
def um:List Ex->List (List AV)
 | []=>[]
 | x :: xs=>sC x :: um xs
end
theorem sD: ∀l:List Ex,um l=l.map sC
 | []=>rfl
 | x :: xs=>by rw [um,sD xs,List.map_cons]
theorem o6 (n:Nat) (a b:List (List AV)):dA n (a++b)=(dA n a&&dA n b):=by
 induction a with
 | nil=>simp [dA]
 | cons x a ih=>simp [dA,ih,Bool.and_assoc]
theorem gQ (n:Nat) (f:Nat->List AV) (h: ∀i,bn n (f i)=true): ∀k,dA n (rB f k)=true
 | 0=>rfl
 | k+1=>by simp [rB,o6,gQ n f h k,dA,h]
theorem xZ (n:Nat) (f:Nat->List AV) (h: ∀i,bn n (f i)=true):dA n (marksOf f)=true:=gQ n f h 12
@[go_sem] theorem KS (f:Nat->List AV):(marksOf f).length=12:=wR f 12
theorem rh (n:Nat) (i:Nat):bn n (wQ i)=true:=rfl
theorem tn (n:Nat) (x:Ex):bn n (sC x)=true:=by
 induction x using Ex.ind with
 | h k s l ih=>
  rw [sC,sD];simp only [bn,AV.wf,SA,SD,o6,xZ n _ (rh n)];exact vd (fun r hr=>by obtain ⟨x,hx,rfl⟩:=List.mem_map.1 hr;exact ih x hx)
theorem xY (n:Nat) (l:List Ex):dA n (l.map sC)=true:=bE _ (tn n) l
attribute [go_sem] tn xY o6
@[go_sem] theorem Ob (n k:Nat):dA n (rB wQ k)=true:=gQ n _ (rh n) k
@[go_sem] theorem Dn (n:Nat):dA n (marksOf wQ)=true:=xZ n _ (rh n)
theorem rK {α β:Type} (f:α->β) (l:List α) (k:Nat) (h:k<l.length):(l.take (k+1)).map f=(l.take k).map f++[f l[k]]:=by
 rw [List.take_add_one,List.map_append];simp [h]
def Ex.lens (n:Nat) (x:Ex):Prop:= ∀y,y∈az x->y.kids.length<=n
def Jn (i:Nat):List AV:=[.v (.string ⟨#[]⟩), .v (.string ⟨#[]⟩), .v (.bool false), .v (.string ⟨#[109]⟩), .v (.string ⟨#[]⟩),Nk i, .v (.string ⟨#[]⟩), .v (.slice none 0 0)]
def Jl (i:Nat):List AV:=[Nk i, .v (.int .i64 0), .v (.string ⟨#[]⟩), .v (.string ⟨#[]⟩), .v (.int .i64 0), .v (.int .i64 0), .v (.string ⟨#[]⟩), .v (.int .i64 0), .v (.string ⟨#[]⟩), .v (.string ⟨#[]⟩), .v (.int .i64 0), .v (.int .i64 0), .v (.string ⟨#[]⟩)]
def Jm (i:Nat):List AV:=[.v (.int .i64 0), .v (.string ⟨#[]⟩), .v (.string ⟨#[]⟩), .v (.int .i64 0),Nk i, .v (.string ⟨#[]⟩)]
def E1 (p:bQ):List AV:=[.v (.string p.aR), .v (.string p.to), .v (.bool p.path), .v (.string p.label), .v (.string p.name), .v (.int .i64 p.expr.kind), .v (.string p.expr.label), .aC 3 (p.expr.kids.map sC++marksOf wQ) p.expr.kids.length]
theorem Dm (n:Nat) (p:bQ):bn n (E1 p)=true:=by simp only [E1,bn,AV.wf,o6,xY,Dn,SA,Tg]
@[go_sem] theorem M7 (n:Nat) (l:List bQ):dA n (l.map E1)=true:=bE _ (Dm n) l
@[go_sem] theorem Od (n k:Nat):dA n (rB Jn k)=true:=gQ n _ (fun _=>rfl) k
@[go_sem] theorem K9 (n:Nat):dA n (marksOf Jn)=true:=gQ n _ (fun _=>rfl) 12
@[go_sem] theorem Oa (n k:Nat):dA n (rB Jl k)=true:=gQ n _ (fun _=>rfl) k
@[go_sem] theorem K7 (n:Nat):dA n (marksOf Jl)=true:=gQ n _ (fun _=>rfl) 12
@[go_sem] theorem Oc (n k:Nat):dA n (rB Jm k)=true:=gQ n _ (fun _=>rfl) k
@[go_sem] theorem K8 (n:Nat):dA n (marksOf Jm)=true:=gQ n _ (fun _=>rfl) 12
def fg.lens (n:Nat) (q:fg):Prop:=q.aj.length<=n∧q.conds.length<=n∧q.ret.length<=n∧ ∀p,p∈q.aj->p.expr.lens n
inductive Le:AV->AV->Prop
 | refl (a:AV):Le a a
 | iR (p:(Nat->Prop)->World->Value->Prop) (a b:AV):Le a b->Le (.iR p a) b
 | nil (z:Nat):Le (.v (.slice none 0 0)) (.aC z [] 0)
 | agg (cs ds:List AV):cs.length=ds.length->(∀(i:Nat) c d,cs[i]? = some c->ds[i]? = some d->Le c d)->Le (.agg cs) (.agg ds)
 | aC (z:Nat) (rows rows':List (List AV)) (len:Nat):len<=rows'.length->rows'.length<=rows.length->(∀(i:Nat) r r',rows[i]? = some r->rows'[i]? = some r'->r.length=r'.length) ->
   (∀(i j:Nat) r r' c c',rows[i]? = some r->rows'[i]? = some r'->r[j]? = some c->r'[j]? = some c'->Le c c')->Le (.aC z rows len) (.aC z rows' len)
section
variable {D:Nat->Prop} {nu:Nat->Nat->Value} {o:List (Option aa)} {w:World} {P:Program}
theorem RA.le {a b:AV} (h:Le a b): ∀ {x:Value},RA D nu o w a x->RA D nu o w b x:=by
 induction h with
 | refl a=>exact fun h=>h
 | iR p a b _ ih=>intro x h;cases h with|iR _ _ _ S h0 h1 hc h2 h3=>exact ih h3
 | nil z=>intro x h;obtain rfl:=h.cj;exact .bf z
 | agg cs ds hl _ ih=>
  intro x h
  cases h with
  | agg _ xs h1 h2 h3=>
   refine .agg ds xs (by omega) (fun i d y hd hy=> ?_) h3
   have hi:i<cs.length:=by have:=(Ra.1 hd).1;omega
   exact ih i cs[i] d (Rp hi) hd (h2 i _ y (Rp hi) hy)
 | aC z rows rows' len h1 h2 h3 _ ih=>
  intro x h;have up: ∀(i:Nat) r',rows'[i]? = some r'-> ∃r,rows[i]? = some r:=fun i r' hr=>⟨_,Rp (by have:=(Ra.1 hr).1;omega)⟩
  have upj: ∀(i j:Nat) r' c',rows'[i]? = some r'->r'[j]? = some c'-> ∃r c,rows[i]? = some r∧r[j]? = some c:=fun i j r' c' hr hc=>by
   obtain ⟨r,hr'⟩:=up i r' hr;exact ⟨r,_,hr',Rp (by have:=h3 i r r' hr' hr;have:=(Ra.1 hc).1;omega)⟩
  cases h with
  | bf=>
   have:rows'=[]:=RM (by simpa using h2)
   subst this;exact .bf z
  | bC _ a=>
   have:rows'=[]:=RM (by simpa using h2)
   subst this;exact .bC z a
  | aC _ _ _ b off cap f k1 k2 k3 k4 k5 k6 k7 k8=>
   refine .aC z rows' len b off cap f h1 (by omega) k3 (fun hne=>k4 (fun e=>hne (by subst e;exact RM (by simpa using h2)))) (fun i r' hr=> ?_) (fun i j r' c' hr hc=> ?_) (fun i j r' c' hr hc=> ?_) (fun i j r' c' hr hc=> ?_)
   ·obtain ⟨r,hr'⟩:=up i r' hr;rw [<-h3 i r r' hr' hr];exact k5 i r hr'
   ·obtain ⟨r,c,q1,q2⟩:=upj i j r' c' hr hc;exact k6 i j r c q1 q2
   ·obtain ⟨r,c,q1,q2⟩:=upj i j r' c' hr hc;exact ih i j r r' c c' q1 hr q2 hc (k7 i j r c q1 q2)
   ·obtain ⟨r,c,q1,q2⟩:=upj i j r' c' hr hc;exact k8 i j r c q1 q2
def DI (cs ds:List AV):Prop:=cs.length=ds.length∧ ∀(i:Nat) c d,cs[i]? = some c->ds[i]? = some d->Le c d
theorem DI.nil:DI [] []:=⟨rfl,fun i c d h=>by simp at h⟩
theorem DI.cons {c d:AV} {cs ds:List AV} (h:Le c d) (k:DI cs ds):DI (c :: cs) (d :: ds):=⟨by simp [k.1],fun i x y hx hy=>by
 cases i with
 | zero=>cases hx;cases hy;exact h
 | succ i=>exact k.2 i x y hx hy⟩
theorem DI.agg {cs ds:List AV} (h:DI cs ds):Le (.agg cs) (.agg ds):= .agg cs ds h.1 h.2
theorem fX.le {cs ds:List AV} {xs:Array Value} (h:DI cs ds) (k:fX D nu o w cs xs):fX D nu o w ds xs:=⟨by rw [<-h.1];exact k.len,fun i d x hd hx=>by
 have hi:i<cs.length:=by have:=(Ra.1 hd).1;have:=h.1;omega
 exact (k.at' i cs[i] x (Rp hi) hx).le (h.2 i _ d (Rp hi) hd)⟩
theorem ag.le {f:FuncId} {args args':List AV} {r:AV} (h:ag P f args r) (hw:bn 0 args'=true) (hl:DI args' args):ag P f args' r:=h.args hw (fun _ _ _ _ k=>k.le hl)
end
section
variable {P:Program}
end
theorem FL {D:Nat->Prop} {nu:Nat->Nat->Value} {o:List (Option aa)} {w:World} {x:Value} (h:RA D nu o w (.aC 1 [] 0) x): ∃a c,x = .slice a 0 c:=by
 cases h with
 | bf=>exact ⟨_,_,rfl⟩
 | bC _ a=>exact ⟨_,_,rfl⟩
 | aC _ _ _ b off cap f=>exact ⟨_,_,rfl⟩
theorem jh (b:Nat) (l:List Nat):dA b (au l)=true:=bE _ (fun _=>rfl) _
attribute [go_sem] jh
theorem wy: ∀(l:List Nat) (n i:Nat),l[i]? = some n->l.idxOf n<=i
 | [],n,i,h=>by simp at h
 | x :: l,n,0,h=>by simp at h;subst h;simp
 | x :: l,n,i+1,h=>by
  have:=wy l n i (by simpa using h)
  rw [List.idxOf_cons];cases x==n<;>simp only [cond_true,cond_false]<;>omega
inductive ye:Ex->Prop
 | lab (s:ByteArray):ye (.mk 1 s [])
 | many (k:Int) (s:ByteArray) (l:List Ex):(k=2∨k=3)->l.length<=900->(∀x∈l,ye x)->ye (.mk k s l)
 | one (k:Int) (s:ByteArray) (x:Ex):(k=4∨k=5∨k=6)->ye x->ye (.mk k s [x])
theorem n3 {α β:Type} (f:α->List β): ∀(l:List α) (x:α),x∈l->(f x).length<=(l.flatMap f).length
 | y :: l,x,h=>by
  rw [List.flatMap_cons,Rf]
  rcases List.mem_cons.1 h with rfl|h
  ·omega
  ·have:=n3 f l x h;omega
theorem js (k:Int) (s:ByteArray) (l:List Ex):(az (.mk k s l)).length=1+(l.flatMap az).length:=by
 rw [az,b8,Rg];omega
theorem wh (x:Ex):1<=(az x).length:=by
 obtain ⟨k,s,l⟩:=x;rw [js];omega
theorem EA (l:List Ex):l.length<=(l.flatMap az).length:=by
 induction l with
 | nil=>simp
 | cons x l ih=>rw [List.flatMap_cons,Rf,Rg];have:=wh x;omega
theorem nF (x:Ex): ∀y,y∈az x->(az y).length<=(az x).length:=by
 induction x using Ex.ind with
 | h k s l ih=>
  intro y hy;rw [az,b8] at hy
  rcases List.mem_cons.1 hy with rfl|hy
  ·exact Nat.le_refl _
  ·obtain ⟨z,hz,hy⟩:=Tt.1 hy;have h1:=ih z hz y hy;have h2:=n3 az l z hz;rw [js];omega
theorem uh (x:Ex):x.kids.length<=(az x).length:=by
 obtain ⟨k,s,l⟩:=x;rw [js]
 have:=EA l
 simp only [Ex.kids];omega
theorem pq (l:List ByteArray):fy cf l l=true:=by
 induction l with
 | nil=>rfl
 | cons x xs ih=>simp [fy,cf,ih]
theorem sd (x:Ex) (h:x.ok):ag Tryz.prog 121 [.agg (bg x)] (.v (.bool (aT x))):=
 .ki (by kernel_rfl) (by simp only [bn,AV.wf,kE,Tg]) (fun D nu w vargs hh=>by
  obtain ⟨a,rfl,ha⟩:=dK hh;obtain ⟨ca,rfl,ka⟩:=lS ha
  exact lX x ca w (qP x ca ka) h)
def wB (p:Ex->Bool):List Ex->Nat->Int
 | [],_=> -1
 | x :: xs,i=>if p x then (i:Int) else wB p xs (i+1)
theorem wC (p:Ex->Bool): ∀(l:List Ex) (i:Nat),decide (0<=wB p l i)=l.any p
 | [],i=>rfl
 | x :: xs,i=>by
  rw [wB,List.any_cons]
  cases p x with
  | true=>simp
  | false=>simpa using wC p xs (i+1)
theorem ug {g:FuncId} (p:Ex->Bool) (l:List Ex) (hl:l.length<=1000000) (H: ∀x,x∈l->ag Tryz.prog g [.agg (bg x)] (.v (.bool (p x)))) :
  ag Tryz.prog 230 [.aC 3 (l.map bg) l.length, .fn g [] []] (.v (.int .i64 (wB p l 0))):=by
 (refine ag.enter Tryz.func230 rfl (by kernel_rfl) (by kernel_rfl) rfl (by first|rfl|(simp only [go_sem,Tg,SA,SD])) (by first|rfl|(simp only [go_sem,Tg,SA,SD])) ?_;simp only [Tryz.ntmps230,Tryz.results230,Rg,Q9,Nat.reduceAdd,Nat.reduceSub,Ti,Tj,Tl,Tm])
 repeat (first|(with_reducible first|refine af.up ?_|refine fun (K:AK) hK=> ?_|(refine hK _ ?_;clear hK K))|simp only [go_sem]|with_reducible refine wA ?_|clear hK K)
 refine ct (ι:=Nat) 8 (fun i=>[(5, .undef),(8, .v (.int .i64 i))]) (fun i=>l.length - i) (fun i=>i<=l.length∧wB p l 0=wB p (l.drop i) i) 0 ⟨Nat.zero_le _,rfl⟩ ?_ ?_
 ·(refine ak ?_ ?_ ?_<;>simp only [aR,List.foldl_cons,List.foldl_nil,Ti,Tj,aX,aW,AV.v.injEq,Value.int.injEq,Value.bool.injEq,Value.string.injEq,AV.vec.injEq,AV.ptr.injEq,true_or,or_true,false_or,or_false,aa.mk.injEq,forall_eq_apply_imp_iff,forall_eq,forall_eq',go_sem])
  rfl
 rintro i ⟨hi,hx⟩ K hK
 repeat (first|(with_reducible first|refine af.up ?_|refine fun (K:AK) hK=> ?_|(refine hK _ ?_;clear hK K))|simp only [go_sem]|with_reducible refine wA ?_|clear hK K)
 refine cL.part (fun h=> ?_) (fun h=> ?_)
 ·have hlt:i<l.length:=by (try simp only [bne_iff_ne,ne_eq,bne_eq_false_iff_eq,beq_iff_eq,beq_eq_false_iff_ne,decide_eq_true_eq,decide_eq_false_iff_not,Tn,Int.natCast_inj,Int.ofNat_lt,Int.ofNat_le] at h);omega
  have eW:=aD (k:=i) (by omega);have eG:=getD_map bg l i [] hlt;have HX:=H l[i] (List.getElem_mem hlt);rw [List.drop_eq_getElem_cons hlt,wB] at hx;simp only [bI] at HX eG
  repeat (first|(with_reducible first|refine af.up ?_|refine fun (K:AK) hK=> ?_|(refine hK _ ?_;clear hK K))|simp only [go_sem,eG,bI]|with_reducible refine wA ?_|clear hK K)
  refine ab.one HX ?_
  rcases Tu (p l[i]) with hp|hp
  ·rw [hp,if_pos rfl] at hx
   repeat (first|(with_reducible first|refine af.up ?_|refine fun (K:AK) hK=> ?_|(refine hK _ ?_;clear hK K))|simp only [go_sem,hp]|with_reducible refine wA ?_|clear hK K)
   rw [hx]
  ·rw [hp,if_neg (by decide)] at hx
   repeat (first|(with_reducible first|refine af.up ?_|refine fun (K:AK) hK=> ?_|(refine hK _ ?_;clear hK K))|simp only [go_sem,hp,eW]|with_reducible refine wA ?_|clear hK K)
   exact aM.mk (i+1) ⟨by omega,hx⟩ (by omega) (by (refine ak ?_ ?_ ?_<;>simp only [aR,List.foldl_cons,List.foldl_nil,Ti,Tj,aX,aW,AV.v.injEq,Value.int.injEq,Value.bool.injEq,Value.string.injEq,AV.vec.injEq,AV.ptr.injEq,true_or,or_true,false_or,or_false,aa.mk.injEq,forall_eq_apply_imp_iff,forall_eq,forall_eq',go_sem]))
 ·have:i=l.length:=by (try simp only [bne_iff_ne,ne_eq,bne_eq_false_iff_eq,beq_iff_eq,beq_eq_false_iff_ne,decide_eq_true_eq,decide_eq_false_iff_not,Tn,Int.natCast_inj,Int.ofNat_lt,Int.ofNat_le] at h);omega
  rw [this,List.drop_length,wB] at hx
  repeat (first|(with_reducible first|refine af.up ?_|refine fun (K:AK) hK=> ?_|(refine hK _ ?_;clear hK K))|simp only [go_sem]|with_reducible refine wA ?_|clear hK K)
  rw [hx]
theorem jP {g:FuncId} (p:Ex->Bool) (l:List Ex) (hl:l.length<=1000000) (H: ∀x,x∈l->ag Tryz.prog g [.agg (bg x)] (.v (.bool (p x)))) :
  ag Tryz.prog 209 [.aC 3 (l.map bg) l.length, .fn g [] []] (.v (.bool (l.any p))):=by
 have C:=ug p l hl H
 (refine ag.enter Tryz.func209 rfl (by kernel_rfl) (by kernel_rfl) rfl (by first|rfl|(simp only [go_sem,Tg,SA,SD])) (by first|rfl|(simp only [go_sem,Tg,SA,SD])) ?_;simp only [Tryz.ntmps209,Tryz.results209,Rg,Q9,Nat.reduceAdd,Nat.reduceSub,Ti,Tj,Tl,Tm])
 repeat (first|(with_reducible first|refine af.up ?_|refine fun (K:AK) hK=> ?_|(refine hK _ ?_;clear hK K))|simp only [go_sem]|clear hK K)
 refine ab.one C ?_
 repeat (first|(with_reducible first|refine af.up ?_|refine fun (K:AK) hK=> ?_|(refine hK _ ?_;clear hK K))|simp only [go_sem]|clear hK K)
 rw [wC]
theorem zf (x:Ex) (H:ag Tryz.prog 181 [.agg (bg x)] (.v (.bool (cg x)))):ag Tryz.prog 210 [.agg (bg x)] (.v (.bool (!cg x))):=by
 simp only [bI] at H ⊢
 (refine ag.enter Tryz.func210 rfl (by kernel_rfl) (by kernel_rfl) rfl (by first|rfl|(simp only [go_sem,Tg,SA,SD])) (by first|rfl|(simp only [go_sem,Tg,SA,SD])) ?_;simp only [Tryz.ntmps210,Tryz.results210,Rg,Q9,Nat.reduceAdd,Nat.reduceSub,Ti,Tj,Tl,Tm])
 repeat (first|(with_reducible first|refine af.up ?_|refine fun (K:AK) hK=> ?_|(refine hK _ ?_;clear hK K))|simp only [go_sem]|clear hK K)
 refine ab.one H ?_
 repeat (first|(with_reducible first|refine af.up ?_|refine fun (K:AK) hK=> ?_|(refine hK _ ?_;clear hK K))|simp only [go_sem]|clear hK K)
theorem Hf (x:Ex) (hx:x.lens 1000000):ag Tryz.prog 181 [.agg (bg x)] (.v (.bool (cg x))):=by
 induction x using Ex.ind with
 | h k s l ih=>
  have hl:l.length<=1000000:=hx (.mk k s l) (by rw [az];exact Sd);have H:=fun x (h:x∈l)=>ih x h (fun y hy=>hx y (by rw [az,b8];exact Sb _ (Tt.2 ⟨x,h,hy⟩)));have C1:=jP cg l hl H;have C2:=jP (fun x=> !cg x) l hl (fun x h=>zf x (H x h))
  have e1:l.all cg = !l.any (fun x=> !cg x):=by simp [List.all_eq_not_any_not]
  simp only [bI,Ex.kind,Ex.label,Ex.kids,cg,pP,pO]
  by_cases h4:k=4
  ·subst h4
   (refine ag.enter Tryz.func181 rfl (by kernel_rfl) (by kernel_rfl) rfl (by first|rfl|(simp only [go_sem,Tg,SA,SD])) (by first|rfl|(simp only [go_sem,Tg,SA,SD])) ?_;simp only [Tryz.ntmps181,Tryz.results181,Rg,Q9,Nat.reduceAdd,Nat.reduceSub,Ti,Tj,Tl,Tm])
   repeat (first|(with_reducible first|refine af.up ?_|refine fun (K:AK) hK=> ?_|(refine hK _ ?_;clear hK K))|simp only [go_sem]|with_reducible refine wA ?_|clear hK K)
  ·by_cases h6:k=6
   ·subst h6
    (refine ag.enter Tryz.func181 rfl (by kernel_rfl) (by kernel_rfl) rfl (by first|rfl|(simp only [go_sem,Tg,SA,SD])) (by first|rfl|(simp only [go_sem,Tg,SA,SD])) ?_;simp only [Tryz.ntmps181,Tryz.results181,Rg,Q9,Nat.reduceAdd,Nat.reduceSub,Ti,Tj,Tl,Tm])
    repeat (first|(with_reducible first|refine af.up ?_|refine fun (K:AK) hK=> ?_|(refine hK _ ?_;clear hK K))|simp only [go_sem]|with_reducible refine wA ?_|clear hK K)
   ·by_cases h3:k=3
    ·subst h3
     (refine ag.enter Tryz.func181 rfl (by kernel_rfl) (by kernel_rfl) rfl (by first|rfl|(simp only [go_sem,Tg,SA,SD])) (by first|rfl|(simp only [go_sem,Tg,SA,SD])) ?_;simp only [Tryz.ntmps181,Tryz.results181,Rg,Q9,Nat.reduceAdd,Nat.reduceSub,Ti,Tj,Tl,Tm])
     repeat (first|(with_reducible first|refine af.up ?_|refine fun (K:AK) hK=> ?_|(refine hK _ ?_;clear hK K))|simp only [go_sem]|with_reducible refine wA ?_|clear hK K)
     refine ab.one C1 ?_
     repeat (first|(with_reducible first|refine af.up ?_|refine fun (K:AK) hK=> ?_|(refine hK _ ?_;clear hK K))|simp only [go_sem]|with_reducible refine wA ?_|clear hK K)
    ·by_cases h2:k=2
     ·subst h2
      (refine ag.enter Tryz.func181 rfl (by kernel_rfl) (by kernel_rfl) rfl (by first|rfl|(simp only [go_sem,Tg,SA,SD])) (by first|rfl|(simp only [go_sem,Tg,SA,SD])) ?_;simp only [Tryz.ntmps181,Tryz.results181,Rg,Q9,Nat.reduceAdd,Nat.reduceSub,Ti,Tj,Tl,Tm])
      repeat (first|(with_reducible first|refine af.up ?_|refine fun (K:AK) hK=> ?_|(refine hK _ ?_;clear hK K))|simp only [go_sem]|with_reducible refine wA ?_|clear hK K)
      refine ab.one C2 ?_
      repeat (first|(with_reducible first|refine af.up ?_|refine fun (K:AK) hK=> ?_|(refine hK _ ?_;clear hK K))|simp only [go_sem]|with_reducible refine wA ?_|clear hK K)
      rw [e1]
     ·by_cases h5:k=5
      ·subst h5
       (refine ag.enter Tryz.func181 rfl (by kernel_rfl) (by kernel_rfl) rfl (by first|rfl|(simp only [go_sem,Tg,SA,SD])) (by first|rfl|(simp only [go_sem,Tg,SA,SD])) ?_;simp only [Tryz.ntmps181,Tryz.results181,Rg,Q9,Nat.reduceAdd,Nat.reduceSub,Ti,Tj,Tl,Tm])
       repeat (first|(with_reducible first|refine af.up ?_|refine fun (K:AK) hK=> ?_|(refine hK _ ?_;clear hK K))|simp only [go_sem]|with_reducible refine wA ?_|clear hK K)
       refine ab.one C2 ?_
       repeat (first|(with_reducible first|refine af.up ?_|refine fun (K:AK) hK=> ?_|(refine hK _ ?_;clear hK K))|simp only [go_sem]|with_reducible refine wA ?_|clear hK K)
       rw [e1]
      ·have f4:(k==4)=false:=beq_false_of_ne h4;have f6:(k==6)=false:=beq_false_of_ne h6;have f3:(k==3)=false:=beq_false_of_ne h3;have f2:(k==2)=false:=beq_false_of_ne h2;have f5:(k==5)=false:=beq_false_of_ne h5;simp only [if_neg h4,if_neg h6,if_neg h3,if_neg h2,if_neg h5]
       (refine ag.enter Tryz.func181 rfl (by kernel_rfl) (by kernel_rfl) rfl (by first|rfl|(simp only [go_sem,Tg,SA,SD])) (by first|rfl|(simp only [go_sem,Tg,SA,SD])) ?_;simp only [Tryz.ntmps181,Tryz.results181,Rg,Q9,Nat.reduceAdd,Nat.reduceSub,Ti,Tj,Tl,Tm])
       repeat (first|(with_reducible first|refine af.up ?_|refine fun (K:AK) hK=> ?_|(refine hK _ ?_;clear hK K))|simp only [go_sem,f4,f6,f3,f2,f5]|with_reducible refine wA ?_|clear hK K)
def j6 (x:Ex):Bool:=aT x&&cg x
theorem zD {x:Ex} (h:aT x=true):x.lens 1000000:=fun y hy=>by
 simp only [aT,RY,decide_eq_true_eq] at h;have h1:=nF x y hy;have h2:=uh y;omega
theorem zX (x:Ex) (h:x.ok):ag Tryz.prog 145 [.agg (bg x)] (.v (.bool (j6 x))):=by
 have R:=sd x h
 rcases Tu (aT x) with hr|hr
 ·have E:=Hf x (zD hr);rw [hr] at R;rw [show j6 x=cg x by rw [j6,hr];rfl];simp only [bI] at R E ⊢
  (refine ag.enter Tryz.func145 rfl (by kernel_rfl) (by kernel_rfl) rfl (by first|rfl|(simp only [go_sem,Tg,SA,SD])) (by first|rfl|(simp only [go_sem,Tg,SA,SD])) ?_;simp only [Tryz.ntmps145,Tryz.results145,Rg,Q9,Nat.reduceAdd,Nat.reduceSub,Ti,Tj,Tl,Tm])
  repeat (first|(with_reducible first|refine af.up ?_|refine fun (K:AK) hK=> ?_|(refine hK _ ?_;clear hK K))|simp only [go_sem]|clear hK K)
  refine ab.one R ?_
  repeat (first|(with_reducible first|refine af.up ?_|refine fun (K:AK) hK=> ?_|(refine hK _ ?_;clear hK K))|simp only [go_sem]|clear hK K)
  refine ab.one E ?_
  repeat (first|(with_reducible first|refine af.up ?_|refine fun (K:AK) hK=> ?_|(refine hK _ ?_;clear hK K))|simp only [go_sem]|clear hK K)
 ·rw [hr] at R;rw [show j6 x=false by rw [j6,hr];rfl];simp only [bI] at R ⊢
  (refine ag.enter Tryz.func145 rfl (by kernel_rfl) (by kernel_rfl) rfl (by first|rfl|(simp only [go_sem,Tg,SA,SD])) (by first|rfl|(simp only [go_sem,Tg,SA,SD])) ?_;simp only [Tryz.ntmps145,Tryz.results145,Rg,Q9,Nat.reduceAdd,Nat.reduceSub,Ti,Tj,Tl,Tm])
  repeat (first|(with_reducible first|refine af.up ?_|refine fun (K:AK) hK=> ?_|(refine hK _ ?_;clear hK K))|simp only [go_sem]|clear hK K)
  refine ab.one R ?_
  repeat (first|(with_reducible first|refine af.up ?_|refine fun (K:AK) hK=> ?_|(refine hK _ ?_;clear hK K))|simp only [go_sem,Go.undef]|clear hK K)
theorem CG (x:Ex) (h:(az x).all Ex.part=true) (hn:(az x).length<=900):Fit x∧ye x:=by
 induction x using Ex.ind with
 | h k s l ih=>
  have hp:bT k s l.length=true:=Sg.1 h (.mk k s l) (by rw [az];exact Sd)
  have hm: ∀x,x∈l->x∈az (.mk k s l):=fun x hx=>by
   rw [az,b8];exact Sb _ (Tt.2 ⟨x,hx,by obtain ⟨k',s',l'⟩:=x;rw [az];exact Sd⟩)
  have H:=fun x (hx:x∈l)=>ih x hx (Sg.2 fun y hy=>Sg.1 h y (by rw [az,b8];exact Sb _ (Tt.2 ⟨x,hx,hy⟩))) (by
   have h1:=nF (.mk k s l) x (hm x hx)
   omega)
  have hl:l.length<=900:=by have:=uh (.mk k s l);simp only [Ex.kids] at this;omega
  unfold bT at hp
  by_cases h1:k=1
  ·subst h1;simp only [BEq.rfl,if_true,RY,decide_eq_true_eq] at hp;have hl0:l=[]:=RM hp.1;subst hl0;exact ⟨.lab s, .lab s⟩
  ·rw [if_neg (by simpa using h1)] at hp
   by_cases h2:k=2∨k=3
   ·rw [if_pos (by simpa using h2)] at hp;simp only [RY,decide_eq_true_eq] at hp;exact ⟨.many k s l h2 hp.1 (fun x hx=>(H x hx).1), .many k s l h2 hl (fun x hx=>(H x hx).2)⟩
   ·rw [if_neg (by simpa using h2)] at hp
    by_cases h3:k=4∨k=5∨k=6
    ·rw [if_pos (by simpa [or_assoc] using h3)] at hp;simp only [RY,decide_eq_true_eq] at hp
     obtain ⟨x,rfl⟩: ∃x,l=[x]:=by
      match l,hp.1 with
      | [x],_=>exact ⟨x,rfl⟩
     exact ⟨.one k s x h3 (H x (by simp)).1, .one k s x h3 (H x (by simp)).2⟩
    ·rw [if_neg (by simpa [or_assoc] using h3)] at hp;cases hp
theorem s9 {x:Ex} (h:aT x=true):Fit x∧ye x:=by
 simp only [aT,RY,decide_eq_true_eq] at h;exact CG x h.2 (by omega)
noncomputable def Hi (x:Ex) (w:List ByteArray):Bool:=aT x && @decide (Lg x w) (Classical.propDecidable _)
end
section
theorem kF (n:Int):IntKind.u32.wrap n=n % 4294967296:=by simp [IntKind.wrap,IntKind.signed,IntKind.bits]
theorem zN (m:BitVec 32):IntKind.u32.wrap (m.toNat:Int)=m.toNat:=by
 rw [kF];have:=m.isLt;omega
theorem gT (m:BitVec 32):BitVec.ofInt 32 (m.toNat:Int)=m:=by
 simp
theorem Ar (m:BitVec 32):IntKind.u32.wrap ((m.toNat:Int) - 1)=(m - 1#32).toNat:=by
 rw [kF,BitVec.toNat_sub];have:=m.isLt;simp;omega
theorem Ib (m:BitVec 32):IntKind.u32.wrap (0 - (m.toNat:Int))=(-m).toNat:=by
 rw [kF,BitVec.toNat_neg];have:=m.isLt;omega
theorem Ia (m:BitVec 32):IntKind.u32.wrap ((m.toNat:Int) * 125613361)=(m * 125613361#32).toNat:=by
 rw [kF,BitVec.toNat_mul];simp
theorem Ih (m:BitVec 32):(m.toNat:Int).fdiv (2 ^ min 27 32)=(m >>> 27).toNat:=by
 show (m.toNat:Int).fdiv (2 ^ 27)=_;rw [BitVec.toNat_ushiftRight,Nat.shiftRight_eq_div_pow];simp [Int.fdiv_eq_ediv_of_nonneg]
theorem Ig (p:Nat):IntKind.u32.wrap (1 * 2 ^ p)=(1#32 <<< p).toNat:=by
 rw [kF,BitVec.toNat_shiftLeft,Nat.shiftLeft_eq];simp
theorem Ie (m:BitVec 32):decide ((0:Int)<(m.toNat:Int))=(m !=0#32):=by
 by_cases h:m=0#32
 ·subst h;simp
 ·have e:m.toNat≠0:=fun e=>h (Tv (by simpa using e));rw [bne_iff_ne.2 h];exact decide_eq_true (by omega)
theorem Fa (m:BitVec 32):((m.toNat:Int)==0)=(m==0#32):=by
 by_cases h:m=0#32
 ·subst h;simp
 ·have e:m.toNat≠0:=fun e=>h (Tv (by simpa using e));rw [beq_eq_false_iff_ne.2 h];exact beq_eq_false_iff_ne.2 (by omega)
theorem uv (m n:BitVec 32):EI .u32 m.toNat n.toNat=(m &&& n).toNat:=by
 rw [EI];show IntKind.u32.wrap ((BitVec.ofInt 32 _ &&& BitVec.ofInt 32 _).toNat:Int)=_;rw [gT,gT,zN]
theorem jz (m n:BitVec 32):Ni .u32 m.toNat n.toNat=(m ||| n).toNat:=by
 rw [Ni];show IntKind.u32.wrap ((BitVec.ofInt 32 _ ||| BitVec.ofInt 32 _).toNat:Int)=_;rw [gT,gT,zN]
theorem Ic (m n:BitVec 32):oV .u32 m.toNat n.toNat=(m &&& ~~~ n).toNat:=by
 rw [oV];show IntKind.u32.wrap ((BitVec.ofInt 32 _ &&& ~~~ BitVec.ofInt 32 _).toNat:Int)=_;rw [gT,gT,zN]
def ay (m:BitVec 32):List Nat:=(List.range 32).filter m.getLsbD
theorem cu {m:BitVec 32} {p:Nat}:p∈ay m↔m.getLsbD p=true:=by
 simp only [ay,List.mem_filter,List.mem_range];exact ⟨fun h=>h.2,fun h=>⟨Tw h,h⟩⟩
theorem lG (m:BitVec 32):(ay m).Pairwise (· < ·):=List.pairwise_lt_range.filter _
theorem BM (m:BitVec 32):(ay m).length<=32:=by
 have:=List.length_filter_le m.getLsbD (List.range 32)
 simpa [ay] using this
theorem jn:ay 0#32=[]:=by simp [ay]
theorem BN {m:BitVec 32} (h:ay m=[]):m=0#32:=by
 refine Tx fun i hi=> ?_
 cases hb:m.getLsbD i with
 | false=>simp
 | true=>have:=cu.2 hb;rw [h] at this;cases this
theorem mw {m:BitVec 32} {p:Nat} {r:List Nat} (h:ay m=p :: r):m.getLsbD p=true∧p<32∧(∀j,j<p->m.getLsbD j=false)∧ ∀j,j∈r↔(m.getLsbD j=true∧p<j):=by
 have hm:m.getLsbD p=true:=cu.1 (by rw [h];simp);have hr:=lG m;rw [h,List.pairwise_cons] at hr
 refine ⟨hm,Tw hm,fun j hj=> ?_,fun j=>⟨fun hj=>⟨cu.1 (by rw [h];exact Sb _ hj),hr.1 j hj⟩,fun hj=> ?_⟩⟩
 ·cases hb:m.getLsbD j with
  | false=>rfl
  | true=>
   have:=cu.2 hb
   rw [h,SZ] at this
   rcases this with rfl|hh
   ·omega
   ·have:=hr.1 j hh;omega
 ·have:=cu.2 hj.1
  rw [h,SZ] at this
  rcases this with rfl|hh
  ·omega
  ·exact hh
theorem H6 {m:BitVec 32} {p:Nat} {r:List Nat} (h:ay m=p :: r):m &&& -m=1#32 <<< p:=by
 obtain ⟨h1,h2,h3,h4⟩:=mw h;refine Tx fun i hi=> ?_;rw [Ty,Tz,BitVec.getLsbD_shiftLeft,BitVec.getLsbD_one]
 rcases Nat.lt_trichotomy i p with q|q|q
 ·simp [h3 i q,q]
 ·subst q
  have: ¬ ∃j,j<i∧m.getLsbD j=true:=fun ⟨j,a,b⟩=>by rw [h3 j a] at b;cases b
  rw [h1,decide_eq_false this];simp [hi]
 ·have: ∃j,j<i∧m.getLsbD j=true:=⟨p,q,h1⟩
  have e:i - p≠0:=by omega
  simp [this,hi,e]
theorem E4 {m:BitVec 32} {p:Nat} {r:List Nat} (h:ay m=p :: r):ay (m &&& (m - 1#32))=r:=by
 obtain ⟨h1,h2,h3,h4⟩:=mw h;have hr:=lG m;rw [h,List.pairwise_cons] at hr
 have key: ∀j,(m &&& (m - 1#32)).getLsbD j=true↔j∈r:=fun j=>by
  rw [h4, <- BitVec.not_neg,Ty,BitVec.getLsbD_not,Tz]
  rcases Nat.lt_or_ge p j with q|q
  ·have: ∃k,k<j∧m.getLsbD k=true:=⟨p,q,h1⟩
   by_cases hj:m.getLsbD j=true
   ·have:=Tw hj
    simp_all
   ·simp_all
  ·by_cases hj:m.getLsbD j=true
   ·have e:j=p:=by
     rcases Nat.lt_or_ge j p with a|a
     ·rw [h3 j a] at hj;cases hj
     ·omega
    subst e
    have: ¬ ∃k,k<j∧m.getLsbD k=true:=fun ⟨k,a,b⟩=>by rw [h3 k a] at b;cases b
    rw [h1,decide_eq_false this];simp [h2]
   ·simp_all
 exact xB (lG _) hr.2 (fun j=>cu.trans (key j))
def aP (m:BitVec 32):AV:= .v (.int .u32 m.toNat)
def xI:List Int:=[0,1,28,2,29,14,24,3,30,22,20,15,25,17,4,8,31,27,13,23,21,19,16,7,26,12,18,6,11,5,10,9]
theorem Ky: ∀p:Nat,p<32->xI[((1#32 <<< p * 125613361#32) >>> 27).toNat]? = some (p:Int):=by decide
theorem JW (s:AS):s.ev (.global 0) = .vp (xI.map fun i=> .v (.int .u8 i)):=rfl
theorem Hd {l:List Int} {f:Int->AV} {n:Nat} {x:Int} (e:l[n]? = some x): ∃r,(l.map f).drop n=f x :: r:=by
 obtain ⟨h1,h2⟩:=Ra.1 e;exact ⟨_,by rw [Ss (by simpa using h1),List.getElem_map,h2]⟩
theorem Gb {p:Nat} (hp:p<32): ∃n r,((1#32 <<< p * 125613361#32) >>> 27).toNat=n∧n<32∧(xI.map fun i=>AV.v (.int .u8 i)).drop n = .v (.int .u8 p) :: r:=by
 have e:=Ky p hp;generalize ((1#32 <<< p * 125613361#32) >>> 27).toNat=n at *;obtain ⟨r,h⟩:=Hd (f:=fun i=>AV.v (.int .u8 i)) e;exact ⟨n,r,rfl,(Ra.1 e).1,h⟩
theorem KE {m:BitVec 32} {p:Nat} {r:List Nat} (h:ay m=p :: r): ∃(M N1 N2 N3:Int) (n:Nat) (r':List AV),(m.toNat:Int)=M∧(M==0)=false∧IntKind.u32.wrap (0 - M)=N1∧EI .u32 M N1=N2∧IntKind.u32.wrap (N2 * 125613361)=N3 ∧
  N3.fdiv (2 ^ min 27 32)=n∧n<32∧(xI.map fun i=>AV.v (.int .u8 i)).drop (n * 1) = .v (.int .u8 p) :: r':=by
 have hp:=(mw h).2.1
 have hm:m≠0#32:=fun e=>by rw [e,jn] at h;cases h
 obtain ⟨n,r',eN,hn,eI⟩:=Gb hp;refine ⟨_,_,_,_,n,r',rfl,by rw [Fa];exact beq_eq_false_iff_ne.2 hm,rfl,rfl,rfl, ?_,hn,by rw [Nat.mul_one];exact eI⟩;rw [Ib,uv,H6 h,Ia,Ih,eN]
theorem Pv {m:BitVec 32} {p:Nat} {r:List Nat} (h:ay m=p :: r):ag Tryz.prog 232 [aP m] (.v (.int .i64 p)):=by
 have hp:=(mw h).2.1;obtain ⟨M,N1,N2,N3,n,r',e0,z1,e1,e2,e3,e4,hn,eI⟩:=KE h;simp only [aP,e0]
 (refine ag.enter Tryz.func232 rfl (by kernel_rfl) (by kernel_rfl) rfl (by first|rfl|(simp only [go_sem,Bool.and_self,Bool.and_true,Bool.true_and])) (by first|rfl|(simp only [go_sem,Bool.and_self,Bool.and_true,Bool.true_and])) ?_;simp only [Tryz.ntmps232,Tryz.results232,Rg,Q9,Nat.reduceAdd,Nat.reduceSub,Ti,Tj,Tl,Tm])
 repeat (first|(with_reducible first|refine af.up ?_|refine fun (K:AK) hK=> ?_|(refine hK _ ?_;clear hK K))|simp only [go_sem,z1,e1,e2,e3,e4,JW,eI]|with_reducible refine wA ?_|clear hK K)
 have eW:IntKind.i64.wrap (p:Int)=p:=fK (by omega) (by omega)
 repeat (first|(with_reducible first|refine af.up ?_|refine fun (K:AK) hK=> ?_|(refine hK _ ?_;clear hK K))|simp only [go_sem,eW]|with_reducible refine wA ?_|clear hK K)
def lI (m:BitVec 32):aa:=⟨180,1,false,[[aP m]]⟩
theorem BZ (p:Nat) (l:List Nat):au (p :: l)=[.v (.int .i64 p)] :: au l:=rfl
theorem GO (m:BitVec 32):gy Tryz.prog 231 [.ptr 0 0 1 0 0] [some (lI m)] (au (ay m)):=by
 simp only [lI,aP]
 (refine gy.enter Tryz.func231 rfl (by kernel_rfl) (by kernel_rfl) rfl (fun l=> ?_);simp only [Tryz.ntmps231,Tryz.results231,Rg,Q9,Nat.reduceAdd,Nat.reduceSub,Ti,Tj,Tl,Tm])
 repeat (first|(with_reducible first|refine af.up ?_|refine fun (K:AK) hK=> ?_|(refine hK _ ?_;clear hK K))|simp only [go_sem]|clear hK K)
 refine fl (ι:=BitVec 32) 3 (fun i=>[]) (fun i=>[some (lI i)]) (fun i=> .run l (au (ay i))) (fun i=>(ay i).length) (fun _=>True) m trivial ?_ ?_
 ·simp only [lI,aP]
  (refine ak ?_ ?_ ?_<;>simp only [aR,List.foldl_cons,List.foldl_nil,Ti,Tj,aX,aW,AV.v.injEq,Value.int.injEq,Value.bool.injEq,Value.string.injEq,AV.vec.injEq,AV.ptr.injEq,true_or,or_true,false_or,or_false,aa.mk.injEq,forall_eq_apply_imp_iff,forall_eq,forall_eq',go_sem])
 ·rintro i hi K hK;simp only [lI,aP]
  repeat (first|(with_reducible first|refine af.up ?_|refine fun (K:AK) hK=> ?_|(refine hK _ ?_;clear hK K))|simp only [go_sem,Ie]|clear hK K)
  refine cL.part (fun h=> ?_) (fun h=> ?_)
  ·cases hb:ay i with
   | nil=>rw [BN hb] at h;simp at h
   | cons p r=>
    have C:=Pv hb;have eY:=BZ p r;have hR:=E4 hb;simp only [aP] at C
    repeat (first|(with_reducible first|refine af.up ?_|refine fun (K:AK) hK=> ?_|(refine hK _ ?_;clear hK K))|simp only [go_sem]|clear hK K)
    refine ab.one C ?_
    repeat' (first|(with_reducible first|refine af.up ?_|refine fun (K:AK) hK=> ?_|(refine hK _ ?_;clear hK K))|simp only [go_sem,eY,Ar,uv]|clear hK K|(with_reducible refine ab.one (by assumption) ?_)|(with_reducible refine aQ.one (by assumption) ?_)|(refine cL.part (fun hb=> ?_) (fun hb=> ?_)<;>simp only [hb,go_sem,eY,Ar,uv])|(refine cL.part (fun hb=> ?_) (fun hb=> ?_))|(with_reducible refine dy.mk ?_ ?_))
    ·refine aM.mk (i &&& (i - 1#32)) trivial ?_ ?_
     ·rw [hR,hb];simp
     ·rw [hR];simp only [lI,aP];(refine ak ?_ ?_ ?_<;>simp only [aR,List.foldl_cons,List.foldl_nil,Ti,Tj,aX,aW,AV.v.injEq,Value.int.injEq,Value.bool.injEq,Value.string.injEq,AV.vec.injEq,AV.ptr.injEq,true_or,or_true,false_or,or_false,aa.mk.injEq,forall_eq_apply_imp_iff,forall_eq,forall_eq',go_sem])
    ·exact .inr trivial
  ·have e1:i=0#32:=by simpa using h
   subst e1;simp only [jn,au,List.map_nil]
   repeat (first|(with_reducible first|refine af.up ?_|refine fun (K:AK) hK=> ?_|(refine hK _ ?_;clear hK K))|simp only [go_sem]|clear hK K)
   exact .inl trivial
theorem mK (m:BitVec 32):bK Tryz.prog 211 [aP m] [] (.fn 231 [] [.ptr 0 0 1 0 0]) [some (lI m)]:=by
 simp only [lI,aP]
 (refine bK.enter Tryz.func211 rfl (by kernel_rfl) (by kernel_rfl) rfl ?_;simp only [Tryz.ntmps211,Tryz.results211,Rg,Q9,Nat.reduceAdd,Nat.reduceSub,Ti,Tj,Tl,Tm])
 repeat (first|(with_reducible first|refine af.up ?_|refine fun (K:AK) hK=> ?_|(refine hK _ ?_;clear hK K))|simp only [go_sem]|with_reducible refine wA ?_|clear hK K)
 (refine ⟨?_, ?_, ?_⟩<;>simp only [aX,aW,AV.v.injEq,Value.int.injEq,Value.bool.injEq,Value.string.injEq,AV.vec.injEq,AV.ptr.injEq,true_or,or_true,false_or,or_false,aa.mk.injEq,forall_eq_apply_imp_iff,forall_eq,forall_eq',go_sem])
open Go.ChangeShapes Go.WideShapes Go.ChangeAt Go.RowKit
theorem E5 {P:Program} {w:World} {n:String} {d:DataW Unit}: ∀(laid:List (String×DataW Unit)) (ps:List MemPlace),DataW.LaidVars P w laid ps->(n,d)∈laid ->
  ∃g t cs fuel p,P.globalNamed n=some g∧(P.globals[g]?).map (·.type)=some t∧w.var? P n=some cs∧DataW.trod (fun _=>()) P w 0 (fun _=>true) false fuel t cs.toList=some (d,p)∧ ∀m∈MemPlace.row ⟨g,0,none⟩ cs.size,m∈ps
 | [],ps,h,hm=>by cases hm
 | (n',d') :: r,ps,h,hm=>by
  obtain ⟨g,t,cs,fuel,p,q,h1,h2,h3,h4,h5,rfl⟩:=h
  rcases SZ.1 hm with e|hm
  ·cases e;exact ⟨g,t,cs,fuel,p,h1,h2,h3,h4,fun m hm=>TA _ (TA _ hm)⟩
  ·obtain ⟨g',t',cs',fuel',p',k1,k2,k3,k4,k5⟩:=E5 r q h5 hm;exact ⟨g',t',cs',fuel',p',k1,k2,k3,k4,fun m hm=>List.mem_append_right _ (k5 m hm)⟩
theorem xJ {P:Program} {w:World} {n:String} {laid:List (String×DataW Unit)} {d:DataW Unit} {g:Nat} {T E:TypeId} {k:IntKind} {N:Nat} (vals:List Int) (hm:(n,d)∈laid) (hd:d = .agg (vals.map fun i=> .lit (.int k i))) (hG:P.globalNamed n=some g) (hT:(P.globals[g]?).map (·.type)=some T) (uT:P.underlying T=some (.array N E)) (uE:P.underlying E=some (.int k))
  (cE:P.cellsOf E=1) (cT:P.cellsOf T=N) (hN:0<N) (hv:vals.length=N) (h:laidMet P laid w): ∃t,w.heap[g]? = some (.cells (vals.map (fun i=>Value.int k i)).toArray t (0,0)):=by
 obtain ⟨ps,hl,hnd,hc⟩:=h;obtain ⟨g0,t0,cs0,f0,p0,hg0,ht0,hv0,hd0,hps⟩:=E5 _ _ hl hm;obtain rfl:=Q4 (hG.symm.trans hg0);obtain rfl:=Q4 (hT.symm.trans ht0);rw [hd] at hd0;obtain ⟨xs,m,rfl,hx,hlen,hn,hel⟩:=DataW.trod_array uT hd0
 have hxs:xs.map (·.1)=vals.map fun i=>(DataW.lit (.int k i):DataW Unit):=by
  simp only [Prod.mk.injEq,DataW.agg.injEq] at hx;exact hx.1.symm
 rw [cT] at hlen;rw [cE] at hel
 have hcs:cs0.toList=vals.map (fun i=>Value.int k i):=by
  refine List.ext_getElem (by rw [hlen,List.length_map,hv]) fun i h1 h2=> ?_
  have hi:i<N:=by omega
  have e1:=hel i hi;rw [Nat.mul_one,Ss h1,List.take_succ_cons,List.take_zero] at e1
  have hix:i<xs.length:=by omega
  rw [Rp hix] at e1;obtain ⟨n,k1,k2,_⟩:=DataW.trod_int uE e1
  have e2:(xs.map (·.1))[i]? = (vals.map fun i=>(DataW.lit (.int k i):DataW Unit))[i]? :=by rw [hxs]
  have hit:i<vals.length:=by omega
  rw [List.getElem?_map,List.getElem?_map,Rp hix,Rp hit,k2] at e2;simp only [Option.map_some,Rl,DataW.lit.injEq,Lit.int.injEq,true_and] at e2;rw [List.getElem_map, <- e2];exact (List.cons.inj k1).1
 obtain ⟨⟨c,t,hb⟩,_⟩:=hc g 0 (hps _ (by
  rw [MemPlace.row,List.mem_map];refine ⟨0, ?_,rfl⟩
  rw [List.mem_range, <- Array.length_toList,hlen];exact hN))
 simp only [World.var?,hG,Option.bind_some,hb,Rl] at hv0;refine ⟨t, ?_⟩;rw [hb,hv0, <- hcs,Array.toArray_toList]
def MS:List Int:=[1,10,100,1000,10000,100000,1000000,10000000,100000000,1000000000,10000000000,100000000000,1000000000000,10000000000000,100000000000000,1000000000000000,10000000000000000,100000000000000000,1000000000000000000,10000000000000000000]
theorem B8 {w:World} (h:laidMetH Tryz.prog [("math/bits.deBruijn32tab", Rows.laid_math_bits_deBruijn32tab),("math/bits.deBruijn64tab", Rows.laid_math_bits_deBruijn64tab),("internal/strconv.uint64pow10", Rows.laid_internal_strconv_uint64pow10)] w):ei (fun _=>True) (fun _ _=>Go.undef) [] w:=by
 rw [MakeChecks.laidMetH_plain _ _ _ (by kernel_rfl)] at h
 have h1:=xJ (P:=Tryz.prog) (g:=0) (T:=278) (E:=5) (k:= .u8) (N:=32) (n:= "math/bits.deBruijn32tab") xI (List.mem_cons_self) rfl (by kernel_rfl) (by kernel_rfl) (by kernel_rfl) (by kernel_rfl) (by kernel_rfl) (by kernel_rfl) (by decide) rfl h
 have h2:=xJ (P:=Tryz.prog) (g:=1) (T:=289) (E:=261) (k:= .u64) (N:=20) (n:= "internal/strconv.uint64pow10") MS (Sb _ (Sb _ List.mem_cons_self)) rfl (by kernel_rfl) (by kernel_rfl) (by kernel_rfl) (by kernel_rfl) (by kernel_rfl) (by kernel_rfl) (by decide) rfl h
 intro g T cs hg;unfold sn at hg;refine ⟨?_,qA _ _,trivial⟩
 split at hg
 ·rename_i e;obtain ⟨-, rfl⟩:=Prod.mk.inj (Q4 hg);subst e;exact h1
 ·split at hg
  ·rename_i e;obtain ⟨-, rfl⟩:=Prod.mk.inj (Q4 hg);subst e;exact h2
  ·cases hg
end
section
theorem JI (q:fg) (names:List ByteArray) (k:Int) (hp:q.aj.length<=1000000) (hk: -9223372036854775808<=k∧k<9223372036854775808) :
  ag Tryz.prog 108 [.agg (cd q),aK names, .v (.int .i64 k)] (.v (.int .i64 (iY q.aj names k:Nat))):=by
 obtain ⟨ps,cs,rs,ra,sl⟩:=q;have hU:=M1 (k:=k) hk.1 hk.2 hp;simp only [cd,aK] at *
 (refine ag.enter Tryz.func108 rfl (by kernel_rfl) (by kernel_rfl) rfl (by first|rfl|(simp only [go_sem,Tg,SA,SD])) (by first|rfl|(simp only [go_sem,Tg,SA,SD])) ?_;simp only [Tryz.ntmps108,Tryz.results108,Rg,Q9,Nat.reduceAdd,Nat.reduceSub,Ti,Tj,Tl,Tm])
 repeat (first|(with_reducible first|refine af.up ?_|refine fun (K:AK) hK=> ?_|(refine hK _ ?_;clear hK K))|simp only [go_sem]|with_reducible refine wA ?_|clear hK K)
 by_cases hin:0<=k∧k<ps.length
 ·rw [decide_eq_true hin] at hU
  have hlt2:k.toNat<ps.length:=by omega
  have eG:=getD_map bM ps k.toNat [] hlt2
  have eN:iY ps names k=rD (hasB names ps[k.toNat].aR)+rD (hasB names ps[k.toNat].to):=by
   rw [iY,if_pos hin,Rp hlt2]
  generalize ps[k.toNat]=pp at eG eN;have C1:=dR names pp.aR;have C2:=dR names pp.to;simp only [aK] at C1 C2;simp only [bM] at eG
  repeat (first|(with_reducible first|refine af.up ?_|refine fun (K:AK) hK=> ?_|(refine hK _ ?_;clear hK K))|simp only [go_sem,hU,eG]|with_reducible refine wA ?_|clear hK K)
  refine ct (ι:=Nat) 28 (fun i=>[(27, .v (.int .i64 i)),(6, .v (.int .i64 (if i=0 then 0 else if i=1 then rD (hasB names pp.aR) else rD (hasB names pp.aR)+rD (hasB names pp.to):Nat))),(9, .undef)]) (fun i=>2 - i) (fun i=>i<=2) 0 (by omega) ?_ ?_
  ·(refine ak ?_ ?_ ?_<;>simp only [aR,SI,SL,Ti,Tj,aX,aW,AV.v.injEq,Value.int.injEq,Value.bool.injEq,Value.string.injEq,AV.vec.injEq,AV.ptr.injEq,true_or,or_true,false_or,or_false,aa.mk.injEq,forall_eq_apply_imp_iff,forall_eq,forall_eq',go_sem])
   rfl
  rintro i hi K hK;have c0:((0:Nat):Int)=0:=rfl;have c1:((1:Nat):Int)=1:=rfl;have c2:((2:Nat):Int)=2:=rfl;have o0:rD false=0:=rfl;have o1:rD true=1:=rfl;have w1:IntKind.i64.wrap ((0:Int)+1)=1:=rfl;have w2:IntKind.i64.wrap ((1:Int)+1)=2:=rfl
  have hi3:i=0∨i=1∨i=2:=by omega
  rcases hi3 with hi0|hi0|hi0
  ·repeat (first|(with_reducible first|refine af.up ?_|refine fun (K:AK) hK=> ?_|(refine hK _ ?_;clear hK K))|simp only [go_sem,hi0,c0,c1,c2,decide_true,decide_false]|with_reducible refine wA ?_|clear hK K)
   refine ab.one C1 ?_
   rcases Tu (hasB names pp.aR) with ha|ha
   ·repeat (first|(with_reducible first|refine af.up ?_|refine fun (K:AK) hK=> ?_|(refine hK _ ?_;clear hK K))|simp only [go_sem,ha,o1,w1]|with_reducible refine wA ?_|clear hK K)
    exact aM.mk 1 (by omega) (by omega) (by
     (try simp only [ha]);(refine ak ?_ ?_ ?_<;>simp only [aR,SI,SL,Ti,Tj,aX,aW,AV.v.injEq,Value.int.injEq,Value.bool.injEq,Value.string.injEq,AV.vec.injEq,AV.ptr.injEq,true_or,or_true,false_or,or_false,aa.mk.injEq,forall_eq_apply_imp_iff,forall_eq,forall_eq',go_sem])
     all_goals first|rfl|exact ⟨rfl,rfl⟩|trace_state)
   ·repeat (first|(with_reducible first|refine af.up ?_|refine fun (K:AK) hK=> ?_|(refine hK _ ?_;clear hK K))|simp only [go_sem,ha,o0,w1]|with_reducible refine wA ?_|clear hK K)
    exact aM.mk 1 (by omega) (by omega) (by
     (try simp only [ha]);(refine ak ?_ ?_ ?_<;>simp only [aR,SI,SL,Ti,Tj,aX,aW,AV.v.injEq,Value.int.injEq,Value.bool.injEq,Value.string.injEq,AV.vec.injEq,AV.ptr.injEq,true_or,or_true,false_or,or_false,aa.mk.injEq,forall_eq_apply_imp_iff,forall_eq,forall_eq',go_sem])
     all_goals first|rfl|exact ⟨rfl,rfl⟩|trace_state)
  ·repeat (first|(with_reducible first|refine af.up ?_|refine fun (K:AK) hK=> ?_|(refine hK _ ?_;clear hK K))|simp only [go_sem,hi0,c0,c1,c2,decide_true,decide_false]|with_reducible refine wA ?_|clear hK K)
   refine ab.one C2 ?_
   rcases Tu (hasB names pp.aR) with ha|ha<;>rcases Tu (hasB names pp.to) with hb|hb
   all_goals
    repeat (first|(with_reducible first|refine af.up ?_|refine fun (K:AK) hK=> ?_|(refine hK _ ?_;clear hK K))|simp only [go_sem,ha,hb,o0,o1,w1,w2]|with_reducible refine wA ?_|clear hK K)
    exact aM.mk 2 (by omega) (by omega) (by
     (try simp only [ha,hb]);(refine ak ?_ ?_ ?_<;>simp only [aR,SI,SL,Ti,Tj,aX,aW,AV.v.injEq,Value.int.injEq,Value.bool.injEq,Value.string.injEq,AV.vec.injEq,AV.ptr.injEq,true_or,or_true,false_or,or_false,aa.mk.injEq,forall_eq_apply_imp_iff,forall_eq,forall_eq',go_sem])
     all_goals first|rfl|exact ⟨rfl,rfl⟩|(simp only [ha,hb,o0,o1];first|rfl|exact ⟨rfl,rfl⟩)|trace_state)
  ·repeat (first|(with_reducible first|refine af.up ?_|refine fun (K:AK) hK=> ?_|(refine hK _ ?_;clear hK K))|simp only [go_sem,hi0,c0,c1,c2,decide_true,decide_false]|with_reducible refine wA ?_|clear hK K)
   rw [eN]
 ·rw [decide_eq_false hin] at hU
  have eN:iY ps names k=0:=by rw [iY,if_neg hin]
  repeat (first|(with_reducible first|refine af.up ?_|refine fun (K:AK) hK=> ?_|(refine hK _ ?_;clear hK K))|simp only [go_sem,hU]|with_reducible refine wA ?_|clear hK K)
  rw [eN];rfl
theorem wo (q:fg) (names:List ByteArray) (k:Nat) (hp:q.aj.length<=1000000) (hk:k<q.aj.length) :
  ag Tryz.prog 107 [.v (.int .i64 k), .vp (cd q), .vp [aK names]] (.v (.int .i64 (dD q.aj names k))):=by
 have C:=JI q names (k:Int) hp (by omega);have hE:=v8 q.aj names (k:Int);obtain ⟨ps,cs,rs,ra,sl⟩:=q;simp only [cd,aK] at *;have eG:=getD_map bM ps k [] hk
 have eP:uK ps k=ps[k].path:=by rw [uK,Rp hk]
 have eR:dD ps names k=2 * (iY ps names k:Int)+(if uK ps k then 0 else 1):=rfl;generalize ps[k]=pp at eG eP;simp only [bM] at eG;have w1:IntKind.i64.wrap (2 * (iY ps names k:Int))=2 * (iY ps names k:Int):=fK (by omega) (by omega);have w2:IntKind.i64.wrap (2 * (iY ps names k:Int)+1)=2 * (iY ps names k:Int)+1:=fK (by omega) (by omega)
 (refine ag.enter Tryz.func107 rfl (by kernel_rfl) (by kernel_rfl) rfl (by first|rfl|(simp only [go_sem,Tg,SA,SD])) (by first|rfl|(simp only [go_sem,Tg,SA,SD])) ?_;simp only [Tryz.ntmps107,Tryz.results107,Rg,Q9,Nat.reduceAdd,Nat.reduceSub,Ti,Tj,Tl,Tm])
 repeat (first|(with_reducible first|refine af.up ?_|refine fun (K:AK) hK=> ?_|(refine hK _ ?_;clear hK K))|simp only [go_sem]|with_reducible refine wA ?_|clear hK K)
 refine ab.one C ?_
 repeat (first|(with_reducible first|refine af.up ?_|refine fun (K:AK) hK=> ?_|(refine hK _ ?_;clear hK K))|simp only [go_sem,w1,eG]|with_reducible refine wA ?_|clear hK K)
 rcases Tu pp.path with h|h
 ·repeat (first|(with_reducible first|refine af.up ?_|refine fun (K:AK) hK=> ?_|(refine hK _ ?_;clear hK K))|simp only [go_sem,h]|with_reducible refine wA ?_|clear hK K)
  rw [eR,eP,h,if_pos rfl,Int.add_zero]
 ·repeat (first|(with_reducible first|refine af.up ?_|refine fun (K:AK) hK=> ?_|(refine hK _ ?_;clear hK K))|simp only [go_sem,h,w2]|with_reducible refine wA ?_|clear hK K)
  rw [eR,eP,h,if_neg (by decide)]
theorem xv (ps:List bQ) (names:List ByteArray) (k:Nat):0<=dD ps names k∧dD ps names k<=5:=by
 have:=v8 ps names (k:Int)
 unfold dD
 split<;>omega
theorem Ez (q:fg) (names:List ByteArray) (a b:Nat) (hp:q.aj.length<=1000000) (ha:a<q.aj.length) (hb:b<q.aj.length) :
  ag Tryz.prog 110 [.v (.int .i64 a), .v (.int .i64 b), .vp [.fn 107 [] [.vp (cd q), .vp [aK names]]]] (.v (.int .i64 (dD q.aj names a - dD q.aj names b))):=by
 have C1:=wo q names a hp ha;have C2:=wo q names b hp hb;have r1:=xv q.aj names a;have r2:=xv q.aj names b;obtain ⟨ps,cs,rs,ra,sl⟩:=q;simp only [cd,aK] at *;have w1:IntKind.i64.wrap (dD ps names a - dD ps names b)=dD ps names a - dD ps names b:=fK (by omega) (by omega)
 (refine ag.enter Tryz.func110 rfl (by kernel_rfl) (by kernel_rfl) rfl (by first|rfl|(simp only [go_sem,Tg,SA,SD])) (by first|rfl|(simp only [go_sem,Tg,SA,SD])) ?_;simp only [Tryz.ntmps110,Tryz.results110,Rg,Q9,Nat.reduceAdd,Nat.reduceSub,Ti,Tj,Tl,Tm])
 repeat (first|(with_reducible first|refine af.up ?_|refine fun (K:AK) hK=> ?_|refine wD ?_|(refine hK _ ?_;clear hK K))|simp only [go_sem]|clear hK K)
 refine aQ.one C1 ?_
 repeat (first|(with_reducible first|refine af.up ?_|refine fun (K:AK) hK=> ?_|refine wD ?_|(refine hK _ ?_;clear hK K))|simp only [go_sem]|clear hK K)
 refine aQ.one C2 ?_
 repeat (first|(with_reducible first|refine af.up ?_|refine fun (K:AK) hK=> ?_|refine wD ?_|(refine hK _ ?_;clear hK K))|simp only [go_sem,w1]|clear hK K)
theorem bF (b:Nat) (l:List Nat):dA b (au l)=true:=bE _ (fun _=>rfl) _
theorem sG (r:Nat->Int): ∀(l:List Nat) (m k:Nat),gC r (l++[k]) m=if r k - r (gC r l m) > 0 then k else gC r l m
 | [],m,k=>rfl
 | a :: l,m,k=>by rw [Tl,gC,sG r l,gC]
theorem Cr {gf:FuncId} {caps:List AV} (r:Nat->Int) (l:List Nat) (hl:l.length<=1000000) (hne:l≠[]) (hc: ∀a b,a∈l->b∈l->ag Tryz.prog gf (.v (.int .i64 a) :: .v (.int .i64 b) :: caps) (.v (.int .i64 (r a - r b)))) (hw:bn 0 caps=true) :
  ag Tryz.prog 109 [.aC 1 (au l) l.length, .fn gf [] caps] (.v (.int .i64 (gC r (l.drop 1) (l.getD 0 0):Nat))):=by
 (refine ag.enter Tryz.func109 rfl (by kernel_rfl) (by kernel_rfl) rfl (by simp only [go_sem,bn,AV.wf,Tg,SA,SD,hw,bF]) (by simp only [go_sem,bn,AV.wf,aA,Tg,SA,SD,hw,bF]) ?_;simp only [Tryz.ntmps109,Tryz.results109,Rg,Q9,Nat.reduceAdd,Nat.reduceSub,Ti,Tj,Tl,Tm])
 have hpos:0<l.length:=by cases l<;>simp_all
 have d0:decide ((l.length:Int)<1)=false:=decide_eq_false (by omega)
 have eG0:(au l).getD 0 []=[.v (.int .i64 (l[0]:Nat))]:=by rw [au,getD_map _ l 0 [] hpos]
 have e0:l.getD 0 0=l[0]:=by simp [List.getD,hpos]
 have hmem: ∀j,gC r ((l.drop 1).take j) l[0]∈l:=fun j=>by
  rcases (gS r ((l.drop 1).take j) l[0]).1 with e|e
  ·rw [e];exact List.getElem_mem hpos
  ·exact List.mem_of_mem_drop (List.mem_of_mem_take e)
 rw [e0]
 repeat (first|(with_reducible first|refine af.up ?_|refine fun (K:AK) hK=> ?_|(refine hK _ ?_;clear hK K))|simp only [go_sem,d0,eG0]|with_reducible refine wA ?_|clear hK K)
 refine ct (ι:=Nat) 14 (fun j=>[(5, .v (.int .i64 (gC r ((l.drop 1).take j) l[0]:Nat))),(6, .v (.int .i64 ((j+1:Nat):Int)))]) (fun j=>l.length - (j+1)) (fun j=>j+1<=l.length) 0 (by omega) ?_ ?_
 ·(refine ak ?_ ?_ ?_<;>simp only [aR,SI,SL,Ti,Tj,aX,aW,AV.v.injEq,Value.int.injEq,Value.bool.injEq,Value.string.injEq,AV.vec.injEq,AV.ptr.injEq,true_or,or_true,false_or,or_false,aa.mk.injEq,forall_eq_apply_imp_iff,forall_eq,forall_eq',go_sem])
  first|exact ⟨bF _ _,hw,rfl,rfl,bF _ _⟩|exact ⟨hw,rfl,rfl⟩
 rintro j hj K hK
 repeat (first|(with_reducible first|refine af.up ?_|refine fun (K:AK) hK=> ?_|(refine hK _ ?_;clear hK K))|simp only [go_sem]|with_reducible refine wA ?_|clear hK K)
 refine cL.part (fun h=> ?_) (fun h=> ?_)
 ·have hlt:j+1<l.length:=by (try simp only [bne_iff_ne,ne_eq,bne_eq_false_iff_eq,beq_iff_eq,beq_eq_false_iff_ne,decide_eq_true_eq,decide_eq_false_iff_not,Tn,Int.natCast_inj,Tp,Int.ofNat_le] at h);omega
  have eW:=aD (k:=j+1) (by omega)
  have eG:(au l).getD (j+1) []=[.v (.int .i64 (l[j+1]:Nat))]:=by rw [au,getD_map _ l (j+1) [] hlt]
  have C:=hc l[j+1] (gC r ((l.drop 1).take j) l[0]) (List.getElem_mem hlt) (hmem j)
  have eS:gC r ((l.drop 1).take (j+1)) l[0]=if r l[j+1] - r (gC r ((l.drop 1).take j) l[0]) > 0 then l[j+1] else gC r ((l.drop 1).take j) l[0]:=by
   rw [List.take_succ_eq_append_getElem (by simp;omega),sG];simp [Nat.add_comm]
  generalize gC r ((l.drop 1).take j) l[0]=m at C eS
  repeat (first|(with_reducible first|refine af.up ?_|refine fun (K:AK) hK=> ?_|(refine hK _ ?_;clear hK K))|simp only [go_sem,h,eG]|with_reducible refine wA ?_|clear hK K)
  refine ab.one C ?_
  by_cases hg:r l[j+1] - r m > 0
  ·rw [if_pos hg] at eS;have hg':decide (0<r l[j+1] - r m)=true:=decide_eq_true hg
   repeat (first|(with_reducible first|refine af.up ?_|refine fun (K:AK) hK=> ?_|(refine hK _ ?_;clear hK K))|simp only [go_sem,hg',eG,eW]|with_reducible refine wA ?_|clear hK K)
   exact aM.mk (j+1) (by omega) (by omega) (by
    simp only [eS]
    (refine ak ?_ ?_ ?_<;>simp only [aR,SI,SL,Ti,Tj,aX,aW,AV.v.injEq,Value.int.injEq,Value.bool.injEq,Value.string.injEq,AV.vec.injEq,AV.ptr.injEq,true_or,or_true,false_or,or_false,aa.mk.injEq,forall_eq_apply_imp_iff,forall_eq,forall_eq',go_sem])
    first|exact ⟨bF _ _,hw,bF _ _⟩|exact hw)
  ·rw [if_neg hg] at eS;have hg':decide (0<r l[j+1] - r m)=false:=decide_eq_false (by omega)
   repeat (first|(with_reducible first|refine af.up ?_|refine fun (K:AK) hK=> ?_|(refine hK _ ?_;clear hK K))|simp only [go_sem,hg',eW]|with_reducible refine wA ?_|clear hK K)
   exact aM.mk (j+1) (by omega) (by omega) (by
    simp only [eS]
    (refine ak ?_ ?_ ?_<;>simp only [aR,SI,SL,Ti,Tj,aX,aW,AV.v.injEq,Value.int.injEq,Value.bool.injEq,Value.string.injEq,AV.vec.injEq,AV.ptr.injEq,true_or,or_true,false_or,or_false,aa.mk.injEq,forall_eq_apply_imp_iff,forall_eq,forall_eq',go_sem])
    first|exact ⟨bF _ _,hw,bF _ _⟩|exact hw)
 ·have hje:j+1=l.length:=by (try simp only [bne_iff_ne,ne_eq,bne_eq_false_iff_eq,beq_iff_eq,beq_eq_false_iff_ne,decide_eq_true_eq,decide_eq_false_iff_not,Tn,Int.natCast_inj,Tp,Int.ofNat_le] at h);omega
  have e1:(l.drop 1).take j=l.drop 1:=TB (by simp;omega)
  repeat (first|(with_reducible first|refine af.up ?_|refine fun (K:AK) hK=> ?_|(refine hK _ ?_;clear hK K))|simp only [go_sem,e1]|with_reducible refine wA ?_|clear hK K)
theorem Hk (q:fg) (names:List ByteArray) (l:List Nat) (hp:q.aj.length<=1000000) (hl:l.length<=1000000) (hne:l≠[]) (hk: ∀k,k∈l->k<q.aj.length) :
  ag Tryz.prog 67 [.agg (cd q),aK names, .aC 1 (au l) l.length] (.v (.int .i64 (gC (dD q.aj names) (l.drop 1) (l.getD 0 0):Nat))):=by
 have C:=Cr (gf:=110) (caps:=[.vp [.fn 107 [] [.vp (cd q), .vp [aK names]]]]) (dD q.aj names) l hl hne (fun a b ha hb=>Ez q names a b hp (hk a ha) (hk b hb)) (by obtain ⟨ps,cs,rs,ra,sl⟩:=q;simp only [cd,aK,go_sem,bn,AV.wf,aA,Tg,SA,SD]);obtain ⟨ps,cs,rs,ra,sl⟩:=q;simp only [cd,aK] at *
 (refine ag.enter Tryz.func67 rfl (by kernel_rfl) (by kernel_rfl) rfl (by simp only [go_sem,bn,AV.wf,Tg,SA,SD,bF]) (by simp only [go_sem,bn,AV.wf,aA,Tg,SA,SD,bF]) ?_;simp only [Tryz.ntmps67,Tryz.results67,Rg,Q9,Nat.reduceAdd,Nat.reduceSub,Ti,Tj,Tl,Tm])
 repeat (first|(with_reducible first|refine af.up ?_|refine fun (K:AK) hK=> ?_|(refine hK _ ?_;clear hK K))|simp only [go_sem]|clear hK K)
 refine ab.x5 C 60 rfl (by simp only [go_sem,Nat.reduceLT,Nat.reduceLeDiff,Nat.reduceEqDiff,Nat.lt_add_one,Nat.zero_lt_one,and_self,bF]) rfl ?_
 repeat (first|(with_reducible first|refine af.up ?_|refine fun (K:AK) hK=> ?_|(refine hK _ ?_;clear hK K))|simp only [go_sem]|clear hK K)
theorem oA (xs:List Nat) (hl:xs.length<=1000000):gy Tryz.prog 73 [.vp [.aC 1 (au xs) xs.length]] [] (au xs):=by
 have e0:au xs=au (xs.drop 0):=by rw [List.drop_zero]
 have L:(au xs).length=xs.length:=by simp [au]
 rw [show gy Tryz.prog 73 [.vp [.aC 1 (au xs) xs.length]] [] (au xs)↔gy Tryz.prog 73 [.vp [.aC 1 (au xs) xs.length]] [] (au (xs.drop 0)) from by rw [List.drop_zero]]
 (refine gy.enter Tryz.func73 rfl (by kernel_rfl) (by kernel_rfl) rfl (fun l=> ?_);simp only [Tryz.ntmps73,Tryz.results73,Rg,Q9,Nat.reduceAdd,Nat.reduceSub,Ti,Tj,Tl,Tm])
 repeat (first|(with_reducible first|refine af.up ?_|refine fun (K:AK) hK=> ?_|(refine hK _ ?_;clear hK K))|simp only [go_sem]|with_reducible refine wA ?_|clear hK K)
 refine fl (ι:=Nat) 8 (fun i=>[(7, .v (.int .i64 i)),(4, .undef)]) (fun i=>[]) (fun i=> .run l (au (xs.drop i))) (fun i=>xs.length - i) (fun i=>i<=xs.length) 0 (by omega) ?_ ?_
 ·(refine ak ?_ ?_ ?_<;>simp only [aR,SI,SL,Ti,Tj,aX,aW,AV.v.injEq,Value.int.injEq,Value.bool.injEq,Value.string.injEq,AV.vec.injEq,AV.ptr.injEq,true_or,or_true,false_or,or_false,aa.mk.injEq,forall_eq_apply_imp_iff,forall_eq,forall_eq',go_sem])
  first|exact ⟨bF _ _,bF _ _,rfl⟩|rfl
 ·rintro i hi K hK
  repeat (first|(with_reducible first|refine af.up ?_|refine fun (K:AK) hK=> ?_|(refine hK _ ?_;clear hK K))|simp only [go_sem]|with_reducible refine wA ?_|clear hK K)
  refine cL.part (fun h=> ?_) (fun h=> ?_)
  ·have hlt:i<xs.length:=by (try simp only [decide_eq_true_eq,decide_eq_false_iff_not,Tp] at h);omega
   have eW:=aD (k:=i) (by omega)
   have eG:(au xs).getD i []=[.v (.int .i64 (xs[i]:Nat))]:=by rw [au,getD_map _ xs i [] hlt]
   have eY:au (xs.drop i)=[.v (.int .i64 (xs[i]:Nat))] :: au (xs.drop (i+1)):=by rw [au,List.drop_eq_getElem_cons hlt];rfl
   repeat' (first|(with_reducible first|refine af.up ?_|refine fun (K:AK) hK=> ?_|(refine hK _ ?_;clear hK K))|simp only [go_sem,eG,eW,eY,Go.undef]|with_reducible refine wA ?_|clear hK K|(with_reducible refine ab.one (by assumption) ?_)|(with_reducible refine aQ.one (by assumption) ?_)|(refine cL.part (fun hb=> ?_) (fun hb=> ?_)<;>simp only [hb,go_sem,eG,eW,eY,Go.undef])|(refine cL.part (fun hb=> ?_) (fun hb=> ?_))|(with_reducible refine dy.mk ?_ ?_))
   ·exact aM.mk (i+1) (by omega) (by omega) (by (refine ak ?_ ?_ ?_<;>simp only [aR,SI,SL,Ti,Tj,aX,aW,AV.v.injEq,Value.int.injEq,Value.bool.injEq,Value.string.injEq,AV.vec.injEq,AV.ptr.injEq,true_or,or_true,false_or,or_false,aa.mk.injEq,forall_eq_apply_imp_iff,forall_eq,forall_eq',go_sem]);all_goals exact bF _ _)
   ·exact .inr trivial
  ·have e1:au (xs.drop i)=[]:=by rw [List.drop_eq_nil_of_le (by (try simp only [decide_eq_true_eq,decide_eq_false_iff_not,Tp] at h);omega)];rfl
   simp only [e1]
   repeat (first|(with_reducible first|refine af.up ?_|refine fun (K:AK) hK=> ?_|(refine hK _ ?_;clear hK K))|simp only [go_sem]|with_reducible refine wA ?_|clear hK K)
   exact .inl trivial
theorem xQ (v:Value) (hv: ∃a n c,v = .slice a n c) (w:World):Calls Tryz.prog 34 #[v] w (fun e w'=>e = .returned (.func (.func 73) #[] #[.pointer (some ⟨w.heap.size,0,none⟩)])∧w'=w.alloc (.cells #[v] 75)):=by
 obtain ⟨a,n,c,rfl⟩:=hv
 go_enter Tryz.func34,Tryz.ntmps34
 go_wp2
 go_ret
 exact ⟨rfl,rfl⟩
theorem Dj {o:List (Option aa)} {id:Nat} {ob:aa} (ho:o[id]? = some (some ob)) (hv:ob.fw=true):o9 Tryz.prog 34 [.vec id ob.rows.length] o (.fn 73 [] [.vp [.vec id ob.rows.length]]):=by
 refine ⟨by kernel_rfl,fun D nu w vargs hro hra=> ?_⟩;obtain ⟨x,rfl,hx⟩:=dK hra
 obtain ⟨h1,rfl⟩:cw o id ob.rows.length∧x=nu id ob.rows.length:=by
  cases hx with
  | vec _ _ h1 _=>exact ⟨h1,rfl⟩
 have hs: ∃a n c,nu id ob.rows.length = .slice a n c:=by
  rcases hro.obj id ob ho with ⟨_,e2,e3⟩|⟨g,cur,hb⟩|⟨g,es,cl,hm⟩
  ·exact ⟨none,0,0,by rw [e2];exact e3⟩
  ·obtain ⟨cap,k1,_⟩:=hb.vec hv;exact ⟨_,_,_,k1⟩
  ·have:=hm.fw;rw [hv] at this;cases this
 refine (xQ _ hs w).mono ?_;rintro e w' ⟨rfl,rfl⟩;have hb:Below w.heap.size w (w.alloc (.cells #[nu id ob.rows.length] 75)):=dX _ _
 have hone:(nu id ob.rows.length).oneCell'=true:=by obtain ⟨a,n,c,e⟩:=hs;rw [e];rfl
 refine ⟨_,rfl,hb, .fn _ _ _ _ _ rfl rfl (fun i c x k1 _=>by simp at k1) (fun i c x k1 k2=> ?_)⟩
 match i,k1,k2 with
 | 0,k1,k2=>
  cases k1;cases k2
  refine .vp _ _ _ (fun _=>nu id ob.rows.length) ⟨by simp,fun ho=> ?_,hro.up _ (Nat.le_refl _)⟩ (fun j c hc=> ?_) (fun j c hc=> ?_) (fun _ _ _=>hone)
  ·have:=hro.aU ho;omega
  ·have hj:j=0:=by have:=(Ra.1 hc).1;simp at this;omega
   subst hj;simp
  ·have hj:j=0:=by have:=(Ra.1 hc).1;simp at this;omega
   subst hj;cases hc;exact .vec _ _ h1 hone
 | i+1,k1,k2=>simp at k1
def Er:Go.Shelf.Ren:=⟨fun|6=>111|10=>68|n=>n,fun|0=>0|3=>3|4=>4|22=>75|23=>3|25=>116|n=>n,fun n=>n⟩
theorem Hc:SlLaysH.n10 Tryz.prog Er:={
 mixed:=by kernel_rfl
 f6:=⟨Tryz.f111.name,by decide,Tryz.func111⟩
 f10:=⟨Tryz.f68.name,by decide,Tryz.func68⟩
 t0:=by kernel_rfl
 a0:=fun w=>by kernel_rfl
 z0:=fun w=>by kernel_rfl
 v0:=fun w=>by kernel_rfl
 t3:=by kernel_rfl
 a3:=fun w=>by kernel_rfl
 z3:=fun w=>by kernel_rfl
 v3:=fun w=>by kernel_rfl
 t4:=by kernel_rfl
 a4:=fun w=>by kernel_rfl
 z4:=fun w=>by kernel_rfl
 v4:=fun w=>by kernel_rfl
 t22:=by kernel_rfl
 a22:=fun w=>by kernel_rfl
 z22:=fun w=>by kernel_rfl
 v22:=fun w=>by kernel_rfl
 a23:=fun w=>by kernel_rfl
 z23:=fun w=>by kernel_rfl
 t25:=by kernel_rfl
 a25:=fun w=>by kernel_rfl
 z25:=fun w=>by kernel_rfl
 v25:=fun w=>by kernel_rfl }
theorem sb (l:List Nat):au l=b9 (Value.int .i64) (gh l):=by simp [au,b9,gh]
theorem Ax (n k:Int) (b:Nat) (w:World) (hc:w.cell? ⟨b,0,none⟩=some (.int .i64 k)):FnGives Tryz.prog 69 #[.pointer (some ⟨b,0,none⟩)] #[.int .i64 n] (.bool (n==k)) w:=by
 show Calls Tryz.prog 69 #[.int .i64 n, .pointer (some ⟨b,0,none⟩)] w _
 go_enter Tryz.func69,Tryz.ntmps69
 go_wp2
 all_goals (go_ret;exact ⟨by simp_all,0,rfl⟩)
open Go.Sort in
theorem BW (l:List Nat) (k:Nat) (hl:l.length<=1000000) (hne:l≠[]) :
  bK Tryz.prog 68 [.vec 0 l.length, .fn 69 [] [.ptr 1 0 1 0 0]] [some ⟨3,1,true,au l⟩,some ⟨3,1,false,[[.v (.int .i64 k)]]⟩] (.vec 2 (l.filter (fun j=>j !=k)).length)
   [none,some ⟨3,1,false,[[.v (.int .i64 k)]]⟩,some ⟨3,1,true,au (l.filter (fun j=>j !=k))⟩]:=by
 have hf:(gh l).filter (fun x=> !(x==(k:Int)))=gh (l.filter (fun j=>j !=k)):=by
  rw [gh,gh,List.filter_map]
  congr 1
  refine List.filter_congr (fun x _=> ?_);simp only [Function.comp,bne]
  congr 1
  rw [Bool.eq_iff_iff,beq_iff_eq,beq_iff_eq];omega
 have hlen:(gh (l.filter (fun j=>j !=k))).length=(l.filter (fun j=>j !=k)).length:=by simp [gh]
 have hle:(l.filter (fun j=>j !=k)).length<=l.length:=List.length_filter_le _ _
 have hl1:(gh l).length=l.length:=by simp [gh]
 have key:=bK.row (P:=Tryz.prog) (enc:=Value.int .i64) (fun _=>rfl) (f:=68) (args:=[.fn 69 [] [.ptr 1 0 1 0 0]]) (T:=3) (d:=gh l) (o1:=[some ⟨3,1,false,[[.v (.int .i64 k)]]⟩])
  (d':=gh (l.filter (fun j=>j !=k))++List.replicate (l.length - (l.filter (fun j=>j !=k)).length) 0) (k:=(l.filter (fun j=>j !=k)).length) (by rw [List.length_append,List.length_replicate,hlen,hl1];omega) (by omega) (by kernel_rfl) ?_ ?_
 ·rw [List.take_append_of_le_length (by omega),TB (by omega)] at key;rw [hl1, <- sb, <- sb] at key;exact key
 ·intro D nu w vargs cap blk hro hra hH hblk hnu hcap hmx;obtain ⟨x,rfl,hx⟩:=dK hra
  obtain ⟨b,hb0,rfl⟩: ∃b,dn (nu 1 0)=some b∧x = .func (.func 69) #[] #[.pointer (some ⟨b,0,none⟩)]:=by
   cases hx with
   | fn _ _ _ fi ca h1 h2 h3 h4=>
    have e1:fi = #[]:=Array.eq_empty_of_size_eq_zero (by simpa using h1.symm);subst e1
    obtain ⟨y,rfl⟩: ∃y,ca = #[y]:=by
     obtain ⟨cl⟩:=ca
     match cl,h2 with
     | [y],_=>exact ⟨y,rfl⟩
    have h5:=h4 0 _ y rfl rfl
    cases h5 with
    | ptr _ _ _ _ _ b k1 k2=>exact ⟨b,k2,by simp⟩
  obtain ⟨g,cur,hg⟩: ∃g cur,rR D nu [some ⟨3,1,true,b9 (Value.int .i64) (gh l)⟩,some ⟨3,1,false,[[.v (.int .i64 k)]]⟩] w 1 ⟨3,1,false,[[.v (.int .i64 k)]]⟩ g cur:=by
   rcases hro.obj 1 _ rfl with ⟨e1,_⟩|h|⟨g,es,cl,hm⟩
   ·cases e1
   ·exact h
   ·have:=hm.z;cases this
  obtain rfl:g=b:=by have:=hg.kI;rw [show nu 1 (aa.hl ⟨3,1,false,[[.v (.int .i64 k)]]⟩)=nu 1 0 from rfl,hb0] at this;cases this;rfl
  have hlt:g<w.heap.size:=(Array.getElem?_eq_some_iff.1 hg.blk).1
  have hne':g≠blk:=fun e=>hro.sep 1 0 _ _ g rfl rfl (by decide) hg.bJ (by
   show cW (nu 0 (b9 (Value.int .i64) (gh l)).length)=some g
   rw [show (b9 (Value.int .i64) (gh l)).length=(gh l).length by simp [b9],hnu,e];rfl)
  have hcell:w.cell? ⟨g,0,none⟩=some (.int .i64 (k:Int)):=by
   have h1:=hg.mg (i:=0) (j:=0) (row:=[.v (.int .i64 k)]) rfl Nat.zero_lt_one;have h3:=(hg.cell 0 0 _ _ _ rfl rfl (Array.getElem?_eq_getElem h1)).cj;simp only [Nat.zero_mul,Nat.add_zero] at h1 h3;simp [World.cell?,hg.blk,h1,h3]
  have hD:=AnyE.slices_DeleteFunc (P:=Tryz.prog) (ρ:=Er) Hc (Value.int .i64) (fun _=>rfl) (fun x=>x==(k:Int)) 69 #[.pointer (some ⟨g,0,none⟩)] (enters_of Tryz.func69 (by kernel_rfl) rfl) 0 (fun w=>by kernel_rfl) blk 0 cap (gh l).toArray w
   (fun W x hb=>Ax x k g W ((hb.cell (p:=⟨g,0,none⟩) hlt).trans hcell))
   (fun n os dk x _=>Ax x k g _ (by
    unfold sortWorld;rw [cell?_grow _ _ _ (by show g<(putRow _ _ _ _ _).heap.size;rw [size_putRow];exact hlt),cell?_putRow_other _ _ blk 0 _ _ (Or.inl hne')]
    exact hcell))
   hH (by simp [gh];omega) (by simpa using hcap)
  simp only [List.toList_toArray,hf,List.size_toArray,hl1,hlen] at hD
  change Calls Tryz.prog 68 _ _ _ at hD
  rw [hl1];refine hD.mono ?_;rintro e w' ⟨rfl,q,rfl⟩;exact ⟨rfl,q, #[],by rw [grow_empty]⟩
 ·intro h;exact absurd (by simpa [gh] using h) hne
end
end Go.Proofs.YtjcobjgjjlahdaaGreatDoor
