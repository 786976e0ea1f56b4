/- texts of one claim, one behind the other. -/
import Derived.Test.YtjcobjgjjlahdaaGreatDoorWAbsV
import Derived.Test.YtjcobjgjjlahdaaGreatDoorWChk3
import Derived.Test.YtjcobjgjjlahdaaGreatDoorWEvery
import Derived.Test.YtjcobjgjjlahdaaGreatDoorWVerts
import Derived.Shelf.Sort.Plain
import Derived.Shelf.Slices.CompactI
import Derived.Shelf.Slices.In.SortNone
import Derived.Shelf.Spec.SlicesGrow
import Derived.Test.YtjcobjgjjlahdaaGreatDoorRows
import Derived.LaidMore
import Derived.OpenShut
import Derived.Shelf.SlicesE.DeleteFunc
set_option linter.unusedSimpArgs false
set_option linter.unusedVariables false
set_option maxRecDepth 100000
set_option maxHeartbeats 16000000
open Bool renaming and_self -> SE, and_true -> R0, true_and -> R3, not_eq_eq_eq_not -> SI, false_eq_true -> Sr, eq_false_or_eq_true -> SO, and_eq_true -> Rq
open Int renaming natCast_inj -> SJ, ofNat_lt -> SK, ofNat_le -> SL
open List renaming length_cons -> QI, length_nil -> QC, replicate_succ -> SG, replicate_zero -> SH, cons_append -> SB, nil_append -> SA, take_succ_eq_append_getElem -> Sf, foldl_cons -> R8, foldl_nil -> Sb, getElem?_eq_getElem -> QS, getElem?_eq_some_iff -> QD, length_map -> Rv, take_length -> SM, length_append -> QH, eq_nil_of_length_eq_zero -> Rg, mem_flatMap -> SN, mem_cons_self -> RE, mem_cons_of_mem -> RC, all_eq_true -> RH, mem_cons -> Sj, drop_eq_getElem_cons -> RT, mem_append_left -> SV, take_of_length_le -> SX
open BitVec renaming eq_of_toNat_eq -> SP, lt_of_getLsbD -> SQ, eq_of_getLsbD_eq -> SR, getLsbD_and -> SS, getLsbD_neg -> SU
open Option.some renaming inj -> Qx, injEq -> QO
namespace Go.Proofs.YtjcobjgjjlahdaaGreatDoor
open Go.RowKit
section
section
variable {P:Program}
theorem bG.OV {f:FuncId} {args:List AV} {r r':AV} {o':List (Option aa)} (h:bG P f args [] r o') (n:Nat) {p:Prop} (hz:fW o' n r=some (p,r')) (hp:p) (hw:bw 0 args=true) (hw':r'.wf 0=true):ah P f args r':=by
 refine ⟨⟨hw,hw'⟩,h.1,fun D nu w vargs hro hra=>(h.2 D nu w vargs hro hra).mono ?_⟩;rintro e w' ⟨v,nu',o'',r'',rfl,hm,hro',hx,rfl,rfl⟩;exact ⟨v,nu',[],r',rfl,⟨hm.os,hm.tape,hm.output,hm.size,fun id len hh=>by obtain ⟨ob,h1,_⟩:=hh;simp at h1,fun b hb hno=>⟨(hm.keep b hb (bf _ _)).1,bf _ _⟩⟩,(.nil _ _ _ hro'.up (hro'.gl.nil (fun _ _ h=>h))),(iU hro' n).1 _ _ _ _ hz hp hx,rfl,rfl⟩
end
theorem yA (x y:Ex):ah Tryz.prog 122 [.agg (bn x), .agg (bn y)] (.v (.bool (dt x y))):=
 .j7 (by kernel_rfl) (by simp only [bw,AV.wf,kr,SE]) (fun D nu w vargs h=>by
  obtain ⟨a,b,rfl,ha,hb⟩:=mv h;obtain ⟨ca,rfl,ka⟩:=lK ha;obtain ⟨cb,rfl,kb⟩:=lK hb
  exact sZ x y ca cb w (qB x ca ka) (qB y cb kb))
theorem Cd (p q:bV):ah Tryz.prog 144 [.agg (bH p), .agg (bH q)] (.v (.bool (dH p q))):=by
 have C:=yA p.expr q.expr;obtain ⟨f1,t1,h1,l1,n1,⟨k1,s1,x1⟩⟩:=p;obtain ⟨f2,t2,h2,l2,n2,⟨k2,s2,x2⟩⟩:=q;simp only [bE,Ex.kind,Ex.label,Ex.kids] at C;simp only [bH,Ex.kind,Ex.label,Ex.kids]
 (refine ah.enter Tryz.func144 rfl (by kernel_rfl) (by kernel_rfl) rfl (by first|rfl|(simp only [go_sem,SE,R0,R3])) (by first|rfl|(simp only [go_sem,SE,R0,R3])) ?_;simp only [Tryz.ntmps144,Tryz.results144,QI,QC,Nat.reduceAdd,Nat.reduceSub,SG,SH,SB,SA])
 repeat' (first|(with_reducible first|refine af.up ?_|refine fun (K:AK) hK=> ?_|(refine hK _ ?_;clear hK K))|simp only [go_sem]|clear hK K|(with_reducible refine ae.one (by assumption) ?_)|(with_reducible refine bc.one (by assumption) ?_)|(refine cQ.part (fun hb=> ?_) (fun hb=> ?_)<;>simp only [hb,go_sem])|(refine cQ.part (fun hb=> ?_) (fun hb=> ?_))|(with_reducible refine dZ.mk ?_ ?_))
 all_goals (refine congrArg Value.bool ?_;simp_all [dH,cd,gP])
def az (l:List Nat):List (List AV):=l.map (fun k:Nat=>[.v (.int .i64 (k:Int))])
theorem vi {ps:List bV} {i j:Nat} (h:i<ps.length) (hj:j<i):(ps.take (j+1)).any (fun a=>dH a ps[i])=((ps.take j).any (fun a=>dH a ps[i])||dH (ps[j]'(by omega)) ps[i]):=by
 rw [Sf (by omega),List.any_append];simp
theorem yU (q:fF) (hl:q.au.length<=1000000):gU Tryz.prog 143 [.vp (b8 q)] [] (az (iL q.au)):=by
 (refine gU.enter Tryz.func143 rfl (by kernel_rfl) (by kernel_rfl) rfl (fun l=> ?_);simp only [Tryz.ntmps143,Tryz.results143,QI,QC,Nat.reduceAdd,Nat.reduceSub,SG,SH,SB,SA])
 obtain ⟨ps,cs,rs,ra,sl⟩:=q;simp only [b8,iL] at *
 repeat (first|(with_reducible first|refine af.up ?_|refine fun (K:AK) hK=> ?_|(refine hK _ ?_;clear hK K))|simp only [go_sem]|with_reducible refine wA ?_|clear hK K)
 refine fJ (ι:=Nat) 11 (fun i=>[(10, .v (.int .i64 i)),(3, .undef),(4, .undef),(6, .undef)]) (fun i=>[]) (fun i=> .run l (az (nq ps i))) (fun i=>ps.length - i) (fun i=>i<=ps.length) 0 (by omega) ?_ ?_
 ·(refine aj ?_ ?_ ?_<;>simp only [aT,R8,Sb,SG,SH,bj,bg,AV.v.injEq,Value.int.injEq,Value.bool.injEq,Value.string.injEq,AV.vec.injEq,AV.ptr.injEq,true_or,or_true,false_or,or_false,aa.mk.injEq,forall_eq_apply_imp_iff,forall_eq,forall_eq',go_sem])
  rfl
 ·rintro i hi K hK
  repeat (first|(with_reducible first|refine af.up ?_|refine fun (K:AK) hK=> ?_|(refine hK _ ?_;clear hK K))|simp only [go_sem]|with_reducible refine wA ?_|clear hK K)
  refine cQ.part (fun h=> ?_) (fun h=> ?_)
  ·have hlt:i<ps.length:=by (try simp only [bne_iff_ne,ne_eq,bne_eq_false_iff_eq,beq_iff_eq,beq_eq_false_iff_ne,decide_eq_true_eq,decide_eq_false_iff_not,SI,SJ,SK,SL] at h);omega
   have eW:=aM (k:=i) (by omega);have eG:=getD_map bH ps i [] hlt;have eY:=Hn hlt;simp only [bH] at eG
   have hA:fm ps i=(ps.take i).any (fun a=>dH a ps[i]):=by rw [fm,QS hlt]
   repeat (first|(with_reducible first|refine af.up ?_|refine fun (K:AK) hK=> ?_|(refine hK _ ?_;clear hK K))|simp only [go_sem,eG]|with_reducible refine wA ?_|clear hK K)
   refine fJ (ι:=Nat) 20 (fun j=>[(20, .v (.int .i64 j)),(6, .undef)]) (fun j=>[some ⟨40,8,false,[bH ps[i]]⟩]) (fun j=> .run l (az (nq ps i))) (fun j=>i - j) (fun j=>j<=i∧(ps.take j).any (fun a=>dH a ps[i])=false) 0 ⟨Nat.zero_le _,rfl⟩ ?_ ?_
   ·(refine aj ?_ ?_ ?_<;>simp only [aT,R8,Sb,SG,SH,bj,bg,AV.v.injEq,Value.int.injEq,Value.bool.injEq,Value.string.injEq,AV.vec.injEq,AV.ptr.injEq,true_or,or_true,false_or,or_false,aa.mk.injEq,forall_eq_apply_imp_iff,forall_eq,forall_eq',go_sem])
    all_goals first|rfl|skip
   rintro j ⟨hj,hP⟩ K hK
   repeat (first|(with_reducible first|refine af.up ?_|refine fun (K:AK) hK=> ?_|(refine hK _ ?_;clear hK K))|simp only [go_sem]|with_reducible refine wA ?_|clear hK K)
   refine cQ.part (fun h2=> ?_) (fun h2=> ?_)
   ·have hji:j<i:=by (try simp only [bne_iff_ne,ne_eq,bne_eq_false_iff_eq,beq_iff_eq,beq_eq_false_iff_ne,decide_eq_true_eq,decide_eq_false_iff_not,SI,SJ,SK,SL] at h2);omega
    have eW2:=aM (k:=j) (by omega);have eG2:=getD_map bH ps j [] (by omega);have C:=Cd ps[j] ps[i];have hS:=vi hlt hji;rw [hP] at hS;simp only [bH] at C eG2
    repeat (first|(with_reducible first|refine af.up ?_|refine fun (K:AK) hK=> ?_|(refine hK _ ?_;clear hK K))|simp only [go_sem,h2,eG2]|with_reducible refine wA ?_|clear hK K)
    refine ae.one C ?_
    repeat (first|(with_reducible first|refine af.up ?_|refine fun (K:AK) hK=> ?_|(refine hK _ ?_;clear hK K))|simp only [go_sem]|with_reducible refine wA ?_|clear hK K)
    refine cQ.part (fun h3=> ?_) (fun h3=> ?_)
    ·have hT:fm ps i=true:=by
      rw [hA,List.any_eq_true];exact ⟨ps[j],List.mem_take_iff_getElem.2 ⟨j,by omega,rfl⟩,h3⟩
     rw [hT] at eY;simp only [if_true] at eY
     repeat (first|(with_reducible first|refine af.up ?_|refine fun (K:AK) hK=> ?_|(refine hK _ ?_;clear hK K))|simp only [go_sem,eW,eY]|with_reducible refine wA ?_|clear hK K)
     exact aQ.mk (i+1) (by omega) (by omega) (by (refine aj ?_ ?_ ?_<;>simp only [aT,R8,Sb,SG,SH,bj,bg,AV.v.injEq,Value.int.injEq,Value.bool.injEq,Value.string.injEq,AV.vec.injEq,AV.ptr.injEq,true_or,or_true,false_or,or_false,aa.mk.injEq,forall_eq_apply_imp_iff,forall_eq,forall_eq',go_sem]))
    ·repeat (first|(with_reducible first|refine af.up ?_|refine fun (K:AK) hK=> ?_|(refine hK _ ?_;clear hK K))|simp only [go_sem,eW2]|with_reducible refine wA ?_|clear hK K)
     exact aQ.mk (j+1) ⟨by omega,by rw [hS,h3];rfl⟩ (by omega) (by (refine aj ?_ ?_ ?_<;>simp only [aT,R8,Sb,SG,SH,bj,bg,AV.v.injEq,Value.int.injEq,Value.bool.injEq,Value.string.injEq,AV.vec.injEq,AV.ptr.injEq,true_or,or_true,false_or,or_false,aa.mk.injEq,forall_eq_apply_imp_iff,forall_eq,forall_eq',go_sem]))
   ·have hji:j=i:=by (try simp only [bne_iff_ne,ne_eq,bne_eq_false_iff_eq,beq_iff_eq,beq_eq_false_iff_ne,decide_eq_true_eq,decide_eq_false_iff_not,SI,SJ,SK,SL] at h2);omega
    rw [hji] at hP;rw [hA,hP] at eY;simp only [Sr,if_false,az,List.map_cons] at eY;simp only [az,eY]
    repeat' (first|(with_reducible first|refine af.up ?_|refine fun (K:AK) hK=> ?_|(refine hK _ ?_;clear hK K))|simp only [go_sem,eW,Go.undef]|with_reducible refine wA ?_|clear hK K|(with_reducible refine ae.one (by assumption) ?_)|(with_reducible refine bc.one (by assumption) ?_)|(refine cQ.part (fun hb=> ?_) (fun hb=> ?_)<;>simp only [hb,go_sem,eW,Go.undef])|(refine cQ.part (fun hb=> ?_) (fun hb=> ?_))|(with_reducible refine dZ.mk ?_ ?_))
    ·exact aQ.mk (i+1) (by omega) (by omega) (by (refine aj ?_ ?_ ?_<;>simp only [aT,R8,Sb,SG,SH,bj,bg,AV.v.injEq,Value.int.injEq,Value.bool.injEq,Value.string.injEq,AV.vec.injEq,AV.ptr.injEq,true_or,or_true,false_or,or_false,aa.mk.injEq,forall_eq_apply_imp_iff,forall_eq,forall_eq',go_sem]))
    ·exact .inr trivial
  ·have e1:nq ps i=[]:=by rw [show i=ps.length by (try simp only [bne_iff_ne,ne_eq,bne_eq_false_iff_eq,beq_iff_eq,beq_eq_false_iff_ne,decide_eq_true_eq,decide_eq_false_iff_not,SI,SJ,SK,SL] at h);omega,EV]
   simp only [e1,az,List.map_nil]
   repeat (first|(with_reducible first|refine af.up ?_|refine fun (K:AK) hK=> ?_|(refine hK _ ?_;clear hK K))|simp only [go_sem]|with_reducible refine wA ?_|clear hK K)
   exact .inl trivial
theorem EU (q:fF):ah Tryz.prog 106 [.agg (b8 q)] (.fn 143 [] [.vp (b8 q)]):=by
 obtain ⟨ps,cs,rs,ra,sl⟩:=q;simp only [b8] at *
 (refine ah.enter Tryz.func106 rfl (by kernel_rfl) (by kernel_rfl) rfl (by first|rfl|(simp only [go_sem,SE,R0,R3])) (by first|rfl|(simp only [go_sem,SE,R0,R3])) ?_;simp only [Tryz.ntmps106,Tryz.results106,QI,QC,Nat.reduceAdd,Nat.reduceSub,SG,SH,SB,SA])
 repeat' (first|(with_reducible first|refine af.up ?_|refine fun (K:AK) hK=> ?_|(refine hK _ ?_;clear hK K))|simp only [go_sem]|clear hK K|(with_reducible refine ae.one (by assumption) ?_)|(with_reducible refine bc.one (by assumption) ?_)|(refine cQ.part (fun hb=> ?_) (fun hb=> ?_)<;>simp only [hb,go_sem])|(refine cQ.part (fun hb=> ?_) (fun hb=> ?_))|(with_reducible refine dZ.mk ?_ ?_))
 (refine lR.of 40 rfl ?_;simp only [go_sem])
theorem tt {gf:FuncId} {caps:List AV} (l:List Nat) (hl:l.length<=1000000) (hs:gU Tryz.prog gf caps [] (az l)) (hw:bw 0 caps=true) :
  bG Tryz.prog 142 [.v (.slice none 0 0), .fn gf [] caps] [] (.vec 1 l.length) [none,some ⟨3,1,true,az l⟩]:=by
 (refine bG.enter Tryz.func142 rfl (by kernel_rfl) (by kernel_rfl) rfl ?_;simp only [Tryz.ntmps142,Tryz.results142,QI,QC,Nat.reduceAdd,Nat.reduceSub,SG,SH,SB,SA])
 repeat (first|(with_reducible first|refine af.up ?_|refine fun (K:AK) hK=> ?_|(refine hK _ ?_;clear hK K))|simp only [go_sem]|with_reducible refine wA ?_|clear hK K)
 refine kB (b7 (k:=0) (i:=0) (j:=0) 3 1 (by decide) rfl (Nat.zero_lt_succ _) rfl rfl) (by kernel_rfl) ?_;simp only [QI,QC,Nat.reduceAdd,SB,SA,List.set_cons_zero]
 refine jh hs 5 (fun k=>[some ⟨75,1,false,[[.vec 1 k]]⟩,some ⟨3,1,true,az (l.take k)⟩]) (fun k=>k<=l.length) (Nat.zero_le _) ?_ ?_ ?_ (by kernel_rfl) (by kernel_rfl) ?_ ?_ ?_
 ·repeat (first|(with_reducible first|refine af.up ?_|refine fun (K:AK) hK=> ?_|(refine hK _ ?_;clear hK K))|simp only [go_sem]|with_reducible refine wA ?_|clear hK K)
 ·exact hw
 ·(refine aj ?_ ?_ ?_<;>simp only [aT,R8,Sb,SG,SH,bj,bg,AV.v.injEq,Value.int.injEq,Value.bool.injEq,Value.string.injEq,AV.vec.injEq,AV.ptr.injEq,true_or,or_true,false_or,or_false,aa.mk.injEq,forall_eq_apply_imp_iff,forall_eq,forall_eq',go_sem])
  ·exact im (by omega) _ hw
  ·exact ⟨rfl,rfl⟩
 ·intro x hx;obtain ⟨o,_,rfl⟩:=List.mem_map.1 hx
  rfl
 ·intro k x hk hx
  obtain ⟨hlt,hx⟩: ∃h:k<l.length,x=[.v (.int .i64 (l[k]:Int))]:=by
   obtain ⟨h1,h2⟩:=QD.1 hx;simp only [az,Rv] at h1;exact ⟨h1,by rw [<-h2];simp [az]⟩
  subst hx;have hw2:bw 2 caps=true:=im (by omega) _ hw
  have eL:(az (l.take k)).length=k:=by simp [az];omega
  have eM:az (l.take (k+1))=az (l.take k)++[[.v (.int .i64 (l[k]:Int))]]:=by rw [az,az,Sf hlt,List.map_append];rfl
  repeat (first|(with_reducible first|refine af.up ?_|refine fun (K:AK) hK=> ?_|(refine hK _ ?_;clear hK K))|simp only [go_sem,eL]|with_reducible refine wA ?_|clear hK K)
  (refine aj ?_ ?_ ?_<;>simp only [aT,R8,Sb,SG,SH,bj,bg,AV.v.injEq,Value.int.injEq,Value.bool.injEq,Value.string.injEq,AV.vec.injEq,AV.ptr.injEq,true_or,or_true,false_or,or_false,aa.mk.injEq,forall_eq_apply_imp_iff,forall_eq,forall_eq',go_sem])
  all_goals first|exact hw2|exact eM.symm|exact ⟨eM.symm,bA _ (fun _=>rfl) _⟩
 ·intro hk
  have eL:(az l).length=l.length:=by simp [az]
  simp only [eL];have e1:l.take l.length=l:=SM
  repeat (first|(with_reducible first|refine af.up ?_|refine fun (K:AK) hK=> ?_|(refine hK _ ?_;clear hK K))|simp only [go_sem,e1]|with_reducible refine wA ?_|clear hK K)
  (refine ⟨?_, ?_, ?_⟩<;>simp only [bj,bg,AV.v.injEq,Value.int.injEq,Value.bool.injEq,Value.string.injEq,AV.vec.injEq,AV.ptr.injEq,true_or,or_true,false_or,or_false,aa.mk.injEq,forall_eq_apply_imp_iff,forall_eq,forall_eq',go_sem])
  exact bA _ (fun _=>rfl) _
theorem yr {gf:FuncId} {caps:List AV} (l:List Nat) (hl:l.length<=1000000) (hs:gU Tryz.prog gf caps [] (az l)) (hw:bw 0 caps=true) :
  bG Tryz.prog 105 [.fn gf [] caps] [] (.vec 1 l.length) [none,some ⟨3,1,true,az l⟩]:=by
 have C:=tt l hl hs hw
 (refine bG.enter Tryz.func105 rfl (by kernel_rfl) (by kernel_rfl) rfl ?_;simp only [Tryz.ntmps105,Tryz.results105,QI,QC,Nat.reduceAdd,Nat.reduceSub,SG,SH,SB,SA])
 repeat (first|(with_reducible first|refine af.up ?_|refine fun (K:AK) hK=> ?_|(refine hK _ ?_;clear hK K))|simp only [go_sem]|with_reducible refine wA ?_|clear hK K)
 refine ae.fr [] C (by simp) ?_ ?_ ?_ ?_ ?_
 ·rfl
 ·exact (dR _ (.v (.slice none 0 0) :: .fn gf [] caps :: []) (by simp only [bw,AV.wf,hw,SE])).symm
 ·simp only [QC,bw,AV.wf,hw,SE]
 ·intro k ob hk;simp at hk
 repeat (first|(with_reducible first|refine af.up ?_|refine fun (K:AK) hK=> ?_|(refine hK _ ?_;clear hK K))|simp only [go_sem]|with_reducible refine wA ?_|clear hK K)
 (refine ⟨?_, ?_, ?_⟩<;>simp only [bj,bg,AV.v.injEq,Value.int.injEq,Value.bool.injEq,Value.string.injEq,AV.vec.injEq,AV.ptr.injEq,true_or,or_true,false_or,or_false,aa.mk.injEq,forall_eq_apply_imp_iff,forall_eq,forall_eq',go_sem])
 exact ⟨bN _ _ (bA _ (fun _=>rfl) _),bA _ (fun _=>rfl) _⟩
theorem Dp (q:fF) (hp:q.au.length<=1000000) (hl:(iL q.au).length<=1000000) :
  bG Tryz.prog 66 [.agg (b8 q)] [] (.vec 2 (iL q.au).length) [none,none,some ⟨3,1,true,az (iL q.au)⟩]:=by
 have N:=EU q;have C:=yr (iL q.au) hl (yU q hp) (by simp only [go_sem]);obtain ⟨ps,cs,rs,ra,sl⟩:=q;simp only [b8] at *
 (refine bG.enter Tryz.func66 rfl (by kernel_rfl) (by kernel_rfl) rfl ?_;simp only [Tryz.ntmps66,Tryz.results66,QI,QC,Nat.reduceAdd,Nat.reduceSub,SG,SH,SB,SA])
 repeat (first|(with_reducible first|refine af.up ?_|refine fun (K:AK) hK=> ?_|(refine hK _ ?_;clear hK K))|simp only [go_sem]|with_reducible refine wA ?_|clear hK K)
 refine ae.one N ?_
 repeat (first|(with_reducible first|refine af.up ?_|refine fun (K:AK) hK=> ?_|(refine hK _ ?_;clear hK K))|simp only [go_sem]|with_reducible refine wA ?_|clear hK K)
 refine ae.fr [] C (by simp) ?_ ?_ ?_ ?_ ?_
 ·rfl
 ·exact (dR _ _ (by simp only [go_sem])).symm
 ·simp only [QC,go_sem]
 ·intro k ob hk;simp at hk
 repeat (first|(with_reducible first|refine af.up ?_|refine fun (K:AK) hK=> ?_|(refine hK _ ?_;clear hK K))|simp only [go_sem]|with_reducible refine wA ?_|clear hK K)
 (refine ⟨?_, ?_, ?_⟩<;>simp only [bj,bg,AV.v.injEq,Value.int.injEq,Value.bool.injEq,Value.string.injEq,AV.vec.injEq,AV.ptr.injEq,true_or,or_true,false_or,or_false,aa.mk.injEq,forall_eq_apply_imp_iff,forall_eq,forall_eq',go_sem])
 exact ⟨bN _ _ (bA _ (fun _=>rfl) _),bA _ (fun _=>rfl) _⟩
theorem DY (p:bV):ah Tryz.prog 72 [.agg (bH p)] (.aE 1 ((aU p).map encS) (aU p).length):=by
 obtain ⟨f1,t1,h1,l1,n1,⟨k1,s1,x1⟩⟩:=p;simp only [bH,aU] at *;cases h1<;>cases hn:eU n1
 all_goals
  simp only [Bool.not_true,Bool.not_false,R0,Bool.and_false,SE,if_true,if_false,Sr]
  (refine ah.enter Tryz.func72 rfl (by kernel_rfl) (by kernel_rfl) rfl (by first|rfl|(simp only [go_sem,SE,R0,R3])) (by first|rfl|(simp only [go_sem,SE,R0,R3])) ?_;simp only [Tryz.ntmps72,Tryz.results72,QI,QC,Nat.reduceAdd,Nat.reduceSub,SG,SH,SB,SA])
  repeat' (first|(with_reducible first|refine af.up ?_|refine fun (K:AK) hK=> ?_|(refine hK _ ?_;clear hK K))|simp only [go_sem]|clear hK K|(with_reducible refine ae.one (by assumption) ?_)|(with_reducible refine bc.one (by assumption) ?_)|(refine cQ.part (fun hb=> ?_) (fun hb=> ?_)<;>simp only [hb,go_sem])|(refine cQ.part (fun hb=> ?_) (fun hb=> ?_))|(with_reducible refine dZ.mk ?_ ?_))
 all_goals (rw [gP,hn] at *)
 all_goals try contradiction
 all_goals (refine lR.of 40 rfl ?_;simp only [go_sem])
theorem FJ {k:Int} (h1: -9223372036854775808<=k) (h2:k<9223372036854775808):IntKind.u64.wrap k=if 0<=k then k else k+18446744073709551616:=by
 simp only [IntKind.wrap,IntKind.bits,IntKind.signed,Bool.false_and,Sr,if_false]
 split<;>omega
theorem Mu {k:Int} {n:Nat} (h1: -9223372036854775808<=k) (h2:k<9223372036854775808) (hn:n<=1000000):decide (IntKind.u64.wrap (n:Int)<=IntKind.u64.wrap k) = !decide (0<=k∧k<n):=by
 rw [FJ h1 h2,FJ (k:=(n:Int)) (by omega) (by omega),if_pos (Int.natCast_nonneg n),Bool.eq_iff_iff];simp only [Bool.not_eq_true',decide_eq_false_iff_not,decide_eq_true_eq]
 split<;>omega
theorem F7 (q:fF) {gf:FuncId} {caps:List AV} (ks:List Int) (hp:q.au.length<=1000000) (hl:ks.length<=1000000) (hk: ∀k∈ks, -9223372036854775808<=k∧k<9223372036854775808) (hs:gU Tryz.prog gf caps [] (ks.map encI)) (hw:bw 0 caps=true) :
  u0 Tryz.prog 33 [.agg (b8 q), .fn gf [] caps] (aS (bW q.au ks)):=by
 obtain ⟨ps,cs,rs,ra,sl⟩:=q;simp only [b8] at *
 (refine u0.enter Tryz.func33 rfl (by kernel_rfl) (by kernel_rfl) rfl (by simp only [go_sem,bw,AV.wf,SE,R0,R3,hw]) (by simp only [go_sem,bw,AV.wf,aD,SE,R0,R3,hw]) ?_;simp only [Tryz.ntmps33,Tryz.results33,QI,QC,Nat.reduceAdd,Nat.reduceSub,SG,SH,SB,SA])
 repeat (first|(with_reducible first|refine af.up ?_|refine fun (K:AK) hK=> ?_|(refine hK _ ?_;clear hK K))|simp only [go_sem]|with_reducible refine wA ?_|clear hK K)
 refine kB (b7 (k:=1) (i:=0) (j:=0) 9 1 (by decide) rfl (by decide) rfl rfl) (by kernel_rfl) ?_;simp only [QI,QC,Nat.reduceAdd,SB,SA,List.set_cons_zero,List.set_cons_succ]
 refine jh hs 11 (fun k=>[some ⟨26,5,false,[[.aE 8 (ps.map bH) ps.length, .aE 13 (cs.map aK) cs.length, .aE 6 (rs.map df) rs.length, .v (.int .i64 ra), .v (.int .i64 sl)]]⟩,some ⟨43,1,false,[[.vec 2 (bW ps (ks.take k)).length]]⟩,some ⟨9,1,true,(bW ps (ks.take k)).map encS⟩]) (fun _=>True) trivial ?_ ?_ ?_ (by kernel_rfl) (by kernel_rfl) ?_ ?_ ?_
 ·repeat (first|(with_reducible first|refine af.up ?_|refine fun (K:AK) hK=> ?_|(refine hK _ ?_;clear hK K))|simp only [go_sem]|with_reducible refine wA ?_|clear hK K)
 ·exact hw
 ·(refine aj ?_ ?_ ?_<;>simp only [aT,R8,Sb,SG,SH,bj,bg,AV.v.injEq,Value.int.injEq,Value.bool.injEq,Value.string.injEq,AV.vec.injEq,AV.ptr.injEq,true_or,or_true,false_or,or_false,aa.mk.injEq,forall_eq_apply_imp_iff,forall_eq,forall_eq',go_sem])
  ·exact im (by omega) _ hw
  ·exact ⟨rfl,rfl⟩
 ·intro x hx;obtain ⟨o,_,rfl⟩:=List.mem_map.1 hx
  rfl
 ·intro k x _ hx
  obtain ⟨hlt,hx⟩: ∃h:k<ks.length,x=encI ks[k]:=by
   obtain ⟨h1,h2⟩:=QD.1 hx;simp only [Rv] at h1;exact ⟨h1,by rw [<-h2];simp⟩
  subst hx;simp only [encI];have hS:=wo ps hlt;have hw3:bw 3 caps=true:=im (by omega) _ hw;have hkk:=hk ks[k] (List.getElem_mem hlt);have hU:=Mu (k:=ks[k]) hkk.1 hkk.2 hp;generalize ks[k]=kk at hS hkk hU ⊢
  by_cases hin:0<=kk∧kk<ps.length
  ·rw [decide_eq_true hin] at hU
   have hlt2:kk.toNat<ps.length:=by omega
   have eG:=getD_map bH ps kk.toNat [] hlt2;have C:=DY ps[kk.toNat]
   have hS2:bW ps (ks.take (k+1))=(aU ps[kk.toNat]).foldl aq (bW ps (ks.take k)):=by
    rw [hS,cr,if_pos hin,QS hlt2]
   generalize ps[kk.toNat]=pp at eG C hS2;have hcl:=fZ pp
   have hnl:(bW ps (ks.take k)).length<=3000000:=by have:=yS ps (ks.take k);simp at this;omega
   simp only [bH] at eG C
   repeat (first|(with_reducible first|refine af.up ?_|refine fun (K:AK) hK=> ?_|(refine hK _ ?_;clear hK K))|simp only [go_sem,hU,eG]|with_reducible refine wA ?_|clear hK K)
   refine ae.one C ?_
   repeat (first|(with_reducible first|refine af.up ?_|refine fun (K:AK) hK=> ?_|(refine hK _ ?_;clear hK K))|simp only [go_sem]|with_reducible refine wA ?_|clear hK K)
   generalize hout:bW ps (ks.take k)=out at hS2 hnl ⊢
   have hF: ∀j,j<=(aU pp).length->(((aU pp).take j).foldl aq out).length<=4000000:=fun j hj=>by
    have:=fe ((aU pp).take j) out;simp at this;omega
   refine cM (ι:=Nat) 27 (fun j=>[(26, .v (.int .i64 j)),(7, .undef)]) (fun j=>[some ⟨26,5,false,[[.aE 8 (ps.map bH) ps.length, .aE 13 (cs.map aK) cs.length, .aE 6 (rs.map df) rs.length, .v (.int .i64 ra), .v (.int .i64 sl)]]⟩,some ⟨43,1,false,[[.vec 2 (((aU pp).take j).foldl aq out).length]]⟩,some ⟨9,1,true,(((aU pp).take j).foldl aq out).map encS⟩]) (fun j=>(aU pp).length - j) (fun j=>j<=(aU pp).length) 0 (Nat.zero_le _) ?_ ?_
   ·(refine aj ?_ ?_ ?_<;>simp only [aT,R8,Sb,SG,SH,bj,bg,AV.v.injEq,Value.int.injEq,Value.bool.injEq,Value.string.injEq,AV.vec.injEq,AV.ptr.injEq,true_or,or_true,false_or,or_false,aa.mk.injEq,forall_eq_apply_imp_iff,forall_eq,forall_eq',go_sem])
    all_goals first|rfl|exact hw3|exact ⟨hw3,hw3,hw3,rfl⟩|skip
   rintro j hj K hK
   repeat (first|(with_reducible first|refine af.up ?_|refine fun (K:AK) hK=> ?_|(refine hK _ ?_;clear hK K))|simp only [go_sem]|with_reducible refine wA ?_|clear hK K)
   refine cQ.part (fun h2=> ?_) (fun h2=> ?_)
   ·have hjl:j<(aU pp).length:=by (try simp only [decide_eq_true_eq,decide_eq_false_iff_not,SK] at h2);omega
    have eW:=aM (k:=j) (by omega);have eG2:=getD_map encS (aU pp) j [] hjl;have hFj:=hF j hj;have C2:=dP (((aU pp).take j).foldl aq out) (aU pp)[j]
    have hS3:((aU pp).take (j+1)).foldl aq out=aq (((aU pp).take j).foldl aq out) (aU pp)[j]:=by
     rw [Sf hjl,List.foldl_append];rfl
    generalize ((aU pp).take j).foldl aq out=fo at hFj C2 hS3 ⊢;generalize (aU pp)[j]=sj at C2 hS3 eG2;simp only [aS] at C2;simp only [encS] at eG2
    repeat (first|(with_reducible first|refine af.up ?_|refine fun (K:AK) hK=> ?_|(refine hK _ ?_;clear hK K))|simp only [go_sem,h2,eG2]|with_reducible refine wA ?_|clear hK K)
    refine ae.xL C2 6 rfl (by simp only [go_sem,aD,Rv]) rfl ?_
    cases hh:hasB fo sj
    ·have eM:(((aU pp).take (j+1)).foldl aq out)=fo++[sj]:=by rw [hS3,aq,hh];rfl
     repeat (first|(with_reducible first|refine af.up ?_|refine fun (K:AK) hK=> ?_|(refine hK _ ?_;clear hK K))|simp only [go_sem,eW]|with_reducible refine wA ?_|clear hK K)
     have eL:(fo++[sj]).length=fo.length+1:=by simp
     have eN:(fo++[sj]).map encS=fo.map encS++[[.v (.string sj)]]:=by simp [encS]
     exact aQ.mk (j+1) (by omega) (by omega) (by
      simp only [eM,eL,eN]
      (refine aj ?_ ?_ ?_<;>simp only [aT,R8,Sb,SG,SH,bj,bg,AV.v.injEq,Value.int.injEq,Value.bool.injEq,Value.string.injEq,AV.vec.injEq,AV.ptr.injEq,true_or,or_true,false_or,or_false,aa.mk.injEq,forall_eq_apply_imp_iff,forall_eq,forall_eq',go_sem])
      all_goals first|rfl|exact hw3|(rw [<-eN];simp only [aD])|skip)
    ·have eM:(((aU pp).take (j+1)).foldl aq out)=fo:=by rw [hS3,aq,hh];rfl
     repeat (first|(with_reducible first|refine af.up ?_|refine fun (K:AK) hK=> ?_|(refine hK _ ?_;clear hK K))|simp only [go_sem,eW]|with_reducible refine wA ?_|clear hK K)
     exact aQ.mk (j+1) (by omega) (by omega) (by
      simp only [eM]
      (refine aj ?_ ?_ ?_<;>simp only [aT,R8,Sb,SG,SH,bj,bg,AV.v.injEq,Value.int.injEq,Value.bool.injEq,Value.string.injEq,AV.vec.injEq,AV.ptr.injEq,true_or,or_true,false_or,or_false,aa.mk.injEq,forall_eq_apply_imp_iff,forall_eq,forall_eq',go_sem])
      all_goals first|rfl|exact hw3|(simp only [aD])|skip)
   ·have hje:j=(aU pp).length:=by (try simp only [decide_eq_true_eq,decide_eq_false_iff_not,SK] at h2);omega
    rw [hje,SM] at *
    repeat (first|(with_reducible first|refine af.up ?_|refine fun (K:AK) hK=> ?_|(refine hK _ ?_;clear hK K))|simp only [go_sem,h2]|with_reducible refine wA ?_|clear hK K)
    rw [hS2]
    (refine aj ?_ ?_ ?_<;>simp only [aT,R8,Sb,SG,SH,bj,bg,AV.v.injEq,Value.int.injEq,Value.bool.injEq,Value.string.injEq,AV.vec.injEq,AV.ptr.injEq,true_or,or_true,false_or,or_false,aa.mk.injEq,forall_eq_apply_imp_iff,forall_eq,forall_eq',go_sem])
    all_goals first|rfl|exact hw3|(simp only [aD])|skip
  ·rw [decide_eq_false hin] at hU
   have hS2:bW ps (ks.take (k+1))=bW ps (ks.take k):=by rw [hS,cr,if_neg hin]
   repeat (first|(with_reducible first|refine af.up ?_|refine fun (K:AK) hK=> ?_|(refine hK _ ?_;clear hK K))|simp only [go_sem,hU]|with_reducible refine wA ?_|clear hK K)
   rw [hS2]
   (refine aj ?_ ?_ ?_<;>simp only [aT,R8,Sb,SG,SH,bj,bg,AV.v.injEq,Value.int.injEq,Value.bool.injEq,Value.string.injEq,AV.vec.injEq,AV.ptr.injEq,true_or,or_true,false_or,or_false,aa.mk.injEq,forall_eq_apply_imp_iff,forall_eq,forall_eq',go_sem])
   all_goals first|rfl|exact hw3|(simp only [aD])|skip
 ·intro _
  have e1:ks.take (ks.map encI).length=ks:=by rw [Rv,SM]
  repeat (first|(with_reducible first|refine af.up ?_|refine fun (K:AK) hK=> ?_|(refine hK _ ?_;clear hK K))|simp only [go_sem,e1]|with_reducible refine wA ?_|clear hK K)
  rw [SM];exact F0.vec (ob:=⟨9,1,true,(bW ps ks).map encS⟩) rfl rfl (Rv _) (Cm _ (fun s c hc=>by rw [encS,List.mem_singleton] at hc;exact ⟨_,hc⟩) _)
end
section
attribute [go_sem] Value.oneCell'
def MK (i:Nat):AV:= .v (.int .i64 ((8000024+i:Nat):Int))
def wk (i:Nat):List AV:=[MK i, .v (.string ⟨#[]⟩), .v (.slice none 0 0)]
def ri (f:Nat->List AV):Nat->List (List AV)
 | 0=>[]
 | n+1=>ri f n++[f n]
@[go_sem] theorem wm (f:Nat->List AV): ∀n,(ri f n).length=n
 | 0=>rfl
 | n+1=>by rw [ri,QH,wm f n];rfl
def marksOf (f:Nat->List AV):List (List AV):=ri f 12
mutual
def sg:Ex->List AV
 | .mk k s l=>[.v (.int .i64 k), .v (.string s), .aE 3 (tU l++marksOf wk) l.length]
def tU:List Ex->List (List AV)
 | []=>[]
 | x :: xs=>sg x :: tU xs
end
theorem sh: ∀l:List Ex,tU l=l.map sg
 | []=>rfl
 | x :: xs=>by rw [tU,sh xs,List.map_cons]
theorem oR (n:Nat) (a b:List (List AV)):dz n (a++b)=(dz n a&&dz n b):=by
 induction a with
 | nil=>simp [dz]
 | cons x a ih=>simp [dz,ih,Bool.and_assoc]
theorem gL (n:Nat) (f:Nat->List AV) (h: ∀i,bw n (f i)=true): ∀k,dz n (ri f k)=true
 | 0=>rfl
 | k+1=>by simp [ri,oR,gL n f h k,dz,h]
theorem xI (n:Nat) (f:Nat->List AV) (h: ∀i,bw n (f i)=true):dz n (marksOf f)=true:=gL n f h 12
@[go_sem] theorem Kk (f:Nat->List AV):(marksOf f).length=12:=wm f 12
theorem qR (n:Nat) (i:Nat):bw n (wk i)=true:=rfl
theorem sY (n:Nat) (x:Ex):bw n (sg x)=true:=by
 induction x using Ex.ind with
 | h k s l ih=>
  rw [sg,sh];simp only [bw,AV.wf,R0,R3,oR,xI n _ (qR n)];exact uO (fun r hr=>by obtain ⟨x,hx,rfl⟩:=List.mem_map.1 hr;exact ih x hx)
theorem xH (n:Nat) (l:List Ex):dz n (l.map sg)=true:=bA _ (sY n) l
attribute [go_sem] sY xH oR
@[go_sem] theorem Ny (n k:Nat):dz n (ri wk k)=true:=gL n _ (qR n) k
@[go_sem] theorem CX (n:Nat):dz n (marksOf wk)=true:=xI n _ (qR n)
theorem ru {α β:Type} (f:α->β) (l:List α) (k:Nat) (h:k<l.length):(l.take (k+1)).map f=(l.take k).map f++[f l[k]]:=by
 rw [List.take_add_one,List.map_append];simp [h]
def Ex.lens (n:Nat) (x:Ex):Prop:= ∀y,y∈aA x->y.kids.length<=n
def IP (i:Nat):List AV:=[.v (.string ⟨#[]⟩), .v (.string ⟨#[]⟩), .v (.bool false), .v (.string ⟨#[109]⟩), .v (.string ⟨#[]⟩),MK i, .v (.string ⟨#[]⟩), .v (.slice none 0 0)]
def IM (i:Nat):List AV:=[MK i, .v (.int .i64 0), .v (.string ⟨#[]⟩), .v (.string ⟨#[]⟩), .v (.int .i64 0), .v (.int .i64 0), .v (.string ⟨#[]⟩), .v (.int .i64 0), .v (.string ⟨#[]⟩), .v (.string ⟨#[]⟩), .v (.int .i64 0), .v (.int .i64 0), .v (.string ⟨#[]⟩)]
def IN (i:Nat):List AV:=[.v (.int .i64 0), .v (.string ⟨#[]⟩), .v (.string ⟨#[]⟩), .v (.int .i64 0),MK i, .v (.string ⟨#[]⟩)]
def EG (p:bV):List AV:=[.v (.string p.aT), .v (.string p.to), .v (.bool p.path), .v (.string p.label), .v (.string p.name), .v (.int .i64 p.expr.kind), .v (.string p.expr.label), .aE 3 (p.expr.kids.map sg++marksOf wk) p.expr.kids.length]
theorem CV (n:Nat) (p:bV):bw n (EG p)=true:=by simp only [EG,bw,AV.wf,oR,xH,CX,R0,SE]
@[go_sem] theorem Mz (n:Nat) (l:List bV):dz n (l.map EG)=true:=bA _ (CV n) l
@[go_sem] theorem NA (n k:Nat):dz n (ri IP k)=true:=gL n _ (fun _=>rfl) k
@[go_sem] theorem KB (n:Nat):dz n (marksOf IP)=true:=gL n _ (fun _=>rfl) 12
@[go_sem] theorem Nx (n k:Nat):dz n (ri IM k)=true:=gL n _ (fun _=>rfl) k
@[go_sem] theorem Kz (n:Nat):dz n (marksOf IM)=true:=gL n _ (fun _=>rfl) 12
@[go_sem] theorem Nz (n k:Nat):dz n (ri IN k)=true:=gL n _ (fun _=>rfl) k
@[go_sem] theorem KA (n:Nat):dz n (marksOf IN)=true:=gL n _ (fun _=>rfl) 12
def fF.lens (n:Nat) (q:fF):Prop:=q.au.length<=n∧q.conds.length<=n∧q.ret.length<=n∧ ∀p,p∈q.au->p.expr.lens n
inductive Le:AV->AV->Prop
 | refl (a:AV):Le a a
 | iP (p:(Nat->Prop)->World->Value->Prop) (a b:AV):Le a b->Le (.iP p a) b
 | nil (z:Nat):Le (.v (.slice none 0 0)) (.aE z [] 0)
 | agg (cs ds:List AV):cs.length=ds.length->(∀(i:Nat) c d,cs[i]? = some c->ds[i]? = some d->Le c d)->Le (.agg cs) (.agg ds)
 | aE (z:Nat) (rows rows':List (List AV)) (len:Nat):len<=rows'.length->rows'.length<=rows.length->(∀(i:Nat) r r',rows[i]? = some r->rows'[i]? = some r'->r.length=r'.length) ->
   (∀(i j:Nat) r r' c c',rows[i]? = some r->rows'[i]? = some r'->r[j]? = some c->r'[j]? = some c'->Le c c')->Le (.aE z rows len) (.aE z rows' len)
section
variable {D:Nat->Prop} {nu:Nat->Nat->Value} {o:List (Option aa)} {w:World} {P:Program}
theorem RA.le {a b:AV} (h:Le a b): ∀ {x:Value},RA D nu o w a x->RA D nu o w b x:=by
 induction h with
 | refl a=>exact fun h=>h
 | iP p a b _ ih=>intro x h;cases h with|iP _ _ _ S h0 h1 hc h2 h3=>exact ih h3
 | nil z=>intro x h;obtain rfl:=h.cf;exact .bm z
 | agg cs ds hl _ ih=>
  intro x h
  cases h with
  | agg _ xs h1 h2 h3=>
   refine .agg ds xs (by omega) (fun i d y hd hy=> ?_) h3
   have hi:i<cs.length:=by have:=(QD.1 hd).1;omega
   exact ih i cs[i] d (QS hi) hd (h2 i _ y (QS hi) hy)
 | aE z rows rows' len h1 h2 h3 _ ih=>
  intro x h;have up: ∀(i:Nat) r',rows'[i]? = some r'-> ∃r,rows[i]? = some r:=fun i r' hr=>⟨_,QS (by have:=(QD.1 hr).1;omega)⟩
  have upj: ∀(i j:Nat) r' c',rows'[i]? = some r'->r'[j]? = some c'-> ∃r c,rows[i]? = some r∧r[j]? = some c:=fun i j r' c' hr hc=>by
   obtain ⟨r,hr'⟩:=up i r' hr;exact ⟨r,_,hr',QS (by have:=h3 i r r' hr' hr;have:=(QD.1 hc).1;omega)⟩
  cases h with
  | bm=>
   have:rows'=[]:=Rg (by simpa using h2)
   subst this;exact .bm z
  | bz _ a=>
   have:rows'=[]:=Rg (by simpa using h2)
   subst this;exact .bz z a
  | aE _ _ _ b off cap f k1 k2 k3 k4 k5 k6 k7 k8=>
   refine .aE z rows' len b off cap f h1 (by omega) k3 (fun hne=>k4 (fun e=>hne (by subst e;exact Rg (by simpa using h2)))) (fun i r' hr=> ?_) (fun i j r' c' hr hc=> ?_) (fun i j r' c' hr hc=> ?_) (fun i j r' c' hr hc=> ?_)
   ·obtain ⟨r,hr'⟩:=up i r' hr;rw [<-h3 i r r' hr' hr];exact k5 i r hr'
   ·obtain ⟨r,c,q1,q2⟩:=upj i j r' c' hr hc;exact k6 i j r c q1 q2
   ·obtain ⟨r,c,q1,q2⟩:=upj i j r' c' hr hc;exact ih i j r r' c c' q1 hr q2 hc (k7 i j r c q1 q2)
   ·obtain ⟨r,c,q1,q2⟩:=upj i j r' c' hr hc;exact k8 i j r c q1 q2
def Dn (cs ds:List AV):Prop:=cs.length=ds.length∧ ∀(i:Nat) c d,cs[i]? = some c->ds[i]? = some d->Le c d
theorem Dn.nil:Dn [] []:=⟨rfl,fun i c d h=>by simp at h⟩
theorem Dn.cons {c d:AV} {cs ds:List AV} (h:Le c d) (k:Dn cs ds):Dn (c :: cs) (d :: ds):=⟨by simp [k.1],fun i x y hx hy=>by
 cases i with
 | zero=>cases hx;cases hy;exact h
 | succ i=>exact k.2 i x y hx hy⟩
theorem Dn.agg {cs ds:List AV} (h:Dn cs ds):Le (.agg cs) (.agg ds):= .agg cs ds h.1 h.2
theorem fQ.le {cs ds:List AV} {xs:Array Value} (h:Dn cs ds) (k:fQ D nu o w cs xs):fQ D nu o w ds xs:=⟨by rw [<-h.1];exact k.len,fun i d x hd hx=>by
 have hi:i<cs.length:=by have:=(QD.1 hd).1;have:=h.1;omega
 exact (k.at' i cs[i] x (QS hi) hx).le (h.2 i _ d (QS hi) hd)⟩
theorem ah.le {f:FuncId} {args args':List AV} {r:AV} (h:ah P f args r) (hw:bw 0 args'=true) (hl:Dn args' args):ah P f args' r:=h.args hw (fun _ _ _ _ k=>k.le hl)
end
section
variable {P:Program}
end
theorem Fh {D:Nat->Prop} {nu:Nat->Nat->Value} {o:List (Option aa)} {w:World} {x:Value} (h:RA D nu o w (.aE 1 [] 0) x): ∃a c,x = .slice a 0 c:=by
 cases h with
 | bm=>exact ⟨_,_,rfl⟩
 | bz _ a=>exact ⟨_,_,rfl⟩
 | aE _ _ _ b off cap f=>exact ⟨_,_,rfl⟩
theorem jb (b:Nat) (l:List Nat):dz b (az l)=true:=bA _ (fun _=>rfl) _
attribute [go_sem] jb
theorem vX: ∀(l:List Nat) (n i:Nat),l[i]? = some n->l.idxOf n<=i
 | [],n,i,h=>by simp at h
 | x :: l,n,0,h=>by simp at h;subst h;simp
 | x :: l,n,i+1,h=>by
  have:=vX l n i (by simpa using h)
  rw [List.idxOf_cons];cases x==n<;>simp only [cond_true,cond_false]<;>omega
inductive xU:Ex->Prop
 | lab (s:ByteArray):xU (.mk 1 s [])
 | many (k:Int) (s:ByteArray) (l:List Ex):(k=2∨k=3)->l.length<=900->(∀x∈l,xU x)->xU (.mk k s l)
 | one (k:Int) (s:ByteArray) (x:Ex):(k=4∨k=5∨k=6)->xU x->xU (.mk k s [x])
theorem nS {α β:Type} (f:α->List β): ∀(l:List α) (x:α),x∈l->(f x).length<=(l.flatMap f).length
 | y :: l,x,h=>by
  rw [List.flatMap_cons,QH]
  rcases List.mem_cons.1 h with rfl|h
  ·omega
  ·have:=nS f l x h;omega
theorem jl (k:Int) (s:ByteArray) (l:List Ex):(aA (.mk k s l)).length=1+(l.flatMap aA).length:=by
 rw [aA,bZ,QI];omega
theorem vN (x:Ex):1<=(aA x).length:=by
 obtain ⟨k,s,l⟩:=x;rw [jl];omega
theorem Ef (l:List Ex):l.length<=(l.flatMap aA).length:=by
 induction l with
 | nil=>simp
 | cons x l ih=>rw [List.flatMap_cons,QH,QI];have:=vN x;omega
theorem nr (x:Ex): ∀y,y∈aA x->(aA y).length<=(aA x).length:=by
 induction x using Ex.ind with
 | h k s l ih=>
  intro y hy;rw [aA,bZ] at hy
  rcases List.mem_cons.1 hy with rfl|hy
  ·exact Nat.le_refl _
  ·obtain ⟨z,hz,hy⟩:=SN.1 hy;have h1:=ih z hz y hy;have h2:=nS aA l z hz;rw [jl];omega
theorem tQ (x:Ex):x.kids.length<=(aA x).length:=by
 obtain ⟨k,s,l⟩:=x;rw [jl]
 have:=Ef l
 simp only [Ex.kids];omega
theorem jR (l:List ByteArray):fp cd l l=true:=by
 induction l with
 | nil=>rfl
 | cons x xs ih=>simp [fp,cd,ih]
theorem rU (x:Ex) (h:x.ok):ah Tryz.prog 121 [.agg (bn x)] (.v (.bool (aV x))):=
 .j7 (by kernel_rfl) (by simp only [bw,AV.wf,kr,SE]) (fun D nu w vargs hh=>by
  obtain ⟨a,rfl,ha⟩:=dI hh;obtain ⟨ca,rfl,ka⟩:=lK ha
  exact lQ x ca w (qB x ca ka) h)
def vY (p:Ex->Bool):List Ex->Nat->Int
 | [],_=> -1
 | x :: xs,i=>if p x then (i:Int) else vY p xs (i+1)
theorem vZ (p:Ex->Bool): ∀(l:List Ex) (i:Nat),decide (0<=vY p l i)=l.any p
 | [],i=>rfl
 | x :: xs,i=>by
  rw [vY,List.any_cons]
  cases p x with
  | true=>simp
  | false=>simpa using vZ p xs (i+1)
theorem tP {g:FuncId} (p:Ex->Bool) (l:List Ex) (hl:l.length<=1000000) (H: ∀x,x∈l->ah Tryz.prog g [.agg (bn x)] (.v (.bool (p x)))) :
  ah Tryz.prog 230 [.aE 3 (l.map bn) l.length, .fn g [] []] (.v (.int .i64 (vY p l 0))):=by
 (refine ah.enter Tryz.func230 rfl (by kernel_rfl) (by kernel_rfl) rfl (by first|rfl|(simp only [go_sem,SE,R0,R3])) (by first|rfl|(simp only [go_sem,SE,R0,R3])) ?_;simp only [Tryz.ntmps230,Tryz.results230,QI,QC,Nat.reduceAdd,Nat.reduceSub,SG,SH,SB,SA])
 repeat (first|(with_reducible first|refine af.up ?_|refine fun (K:AK) hK=> ?_|(refine hK _ ?_;clear hK K))|simp only [go_sem]|with_reducible refine wA ?_|clear hK K)
 refine dq (ι:=Nat) 8 (fun i=>[(5, .undef),(8, .v (.int .i64 i))]) (fun i=>l.length - i) (fun i=>i<=l.length∧vY p l 0=vY p (l.drop i) i) 0 ⟨Nat.zero_le _,rfl⟩ ?_ ?_
 ·(refine aj ?_ ?_ ?_<;>simp only [aT,List.foldl_cons,List.foldl_nil,SG,SH,bj,bg,AV.v.injEq,Value.int.injEq,Value.bool.injEq,Value.string.injEq,AV.vec.injEq,AV.ptr.injEq,true_or,or_true,false_or,or_false,aa.mk.injEq,forall_eq_apply_imp_iff,forall_eq,forall_eq',go_sem])
  rfl
 rintro i ⟨hi,hx⟩ K hK
 repeat (first|(with_reducible first|refine af.up ?_|refine fun (K:AK) hK=> ?_|(refine hK _ ?_;clear hK K))|simp only [go_sem]|with_reducible refine wA ?_|clear hK K)
 refine cQ.part (fun h=> ?_) (fun h=> ?_)
 ·have hlt:i<l.length:=by (try simp only [bne_iff_ne,ne_eq,bne_eq_false_iff_eq,beq_iff_eq,beq_eq_false_iff_ne,decide_eq_true_eq,decide_eq_false_iff_not,SI,Int.natCast_inj,Int.ofNat_lt,Int.ofNat_le] at h);omega
  have eW:=aM (k:=i) (by omega);have eG:=getD_map bn l i [] hlt;have HX:=H l[i] (List.getElem_mem hlt);rw [List.drop_eq_getElem_cons hlt,vY] at hx;simp only [bE] at HX eG
  repeat (first|(with_reducible first|refine af.up ?_|refine fun (K:AK) hK=> ?_|(refine hK _ ?_;clear hK K))|simp only [go_sem,eG,bE]|with_reducible refine wA ?_|clear hK K)
  refine ae.one HX ?_
  rcases SO (p l[i]) with hp|hp
  ·rw [hp,if_pos rfl] at hx
   repeat (first|(with_reducible first|refine af.up ?_|refine fun (K:AK) hK=> ?_|(refine hK _ ?_;clear hK K))|simp only [go_sem,hp]|with_reducible refine wA ?_|clear hK K)
   rw [hx]
  ·rw [hp,if_neg (by decide)] at hx
   repeat (first|(with_reducible first|refine af.up ?_|refine fun (K:AK) hK=> ?_|(refine hK _ ?_;clear hK K))|simp only [go_sem,hp,eW]|with_reducible refine wA ?_|clear hK K)
   exact aQ.mk (i+1) ⟨by omega,hx⟩ (by omega) (by (refine aj ?_ ?_ ?_<;>simp only [aT,List.foldl_cons,List.foldl_nil,SG,SH,bj,bg,AV.v.injEq,Value.int.injEq,Value.bool.injEq,Value.string.injEq,AV.vec.injEq,AV.ptr.injEq,true_or,or_true,false_or,or_false,aa.mk.injEq,forall_eq_apply_imp_iff,forall_eq,forall_eq',go_sem]))
 ·have:i=l.length:=by (try simp only [bne_iff_ne,ne_eq,bne_eq_false_iff_eq,beq_iff_eq,beq_eq_false_iff_ne,decide_eq_true_eq,decide_eq_false_iff_not,SI,Int.natCast_inj,Int.ofNat_lt,Int.ofNat_le] at h);omega
  rw [this,List.drop_length,vY] at hx
  repeat (first|(with_reducible first|refine af.up ?_|refine fun (K:AK) hK=> ?_|(refine hK _ ?_;clear hK K))|simp only [go_sem]|with_reducible refine wA ?_|clear hK K)
  rw [hx]
theorem jG {g:FuncId} (p:Ex->Bool) (l:List Ex) (hl:l.length<=1000000) (H: ∀x,x∈l->ah Tryz.prog g [.agg (bn x)] (.v (.bool (p x)))) :
  ah Tryz.prog 209 [.aE 3 (l.map bn) l.length, .fn g [] []] (.v (.bool (l.any p))):=by
 have C:=tP p l hl H
 (refine ah.enter Tryz.func209 rfl (by kernel_rfl) (by kernel_rfl) rfl (by first|rfl|(simp only [go_sem,SE,R0,R3])) (by first|rfl|(simp only [go_sem,SE,R0,R3])) ?_;simp only [Tryz.ntmps209,Tryz.results209,QI,QC,Nat.reduceAdd,Nat.reduceSub,SG,SH,SB,SA])
 repeat (first|(with_reducible first|refine af.up ?_|refine fun (K:AK) hK=> ?_|(refine hK _ ?_;clear hK K))|simp only [go_sem]|clear hK K)
 refine ae.one C ?_
 repeat (first|(with_reducible first|refine af.up ?_|refine fun (K:AK) hK=> ?_|(refine hK _ ?_;clear hK K))|simp only [go_sem]|clear hK K)
 rw [vZ]
theorem yV (x:Ex) (H:ah Tryz.prog 181 [.agg (bn x)] (.v (.bool (b9 x)))):ah Tryz.prog 210 [.agg (bn x)] (.v (.bool (!b9 x))):=by
 simp only [bE] at H ⊢
 (refine ah.enter Tryz.func210 rfl (by kernel_rfl) (by kernel_rfl) rfl (by first|rfl|(simp only [go_sem,SE,R0,R3])) (by first|rfl|(simp only [go_sem,SE,R0,R3])) ?_;simp only [Tryz.ntmps210,Tryz.results210,QI,QC,Nat.reduceAdd,Nat.reduceSub,SG,SH,SB,SA])
 repeat (first|(with_reducible first|refine af.up ?_|refine fun (K:AK) hK=> ?_|(refine hK _ ?_;clear hK K))|simp only [go_sem]|clear hK K)
 refine ae.one H ?_
 repeat (first|(with_reducible first|refine af.up ?_|refine fun (K:AK) hK=> ?_|(refine hK _ ?_;clear hK K))|simp only [go_sem]|clear hK K)
theorem GF (x:Ex) (hx:x.lens 1000000):ah Tryz.prog 181 [.agg (bn x)] (.v (.bool (b9 x))):=by
 induction x using Ex.ind with
 | h k s l ih=>
  have hl:l.length<=1000000:=hx (.mk k s l) (by rw [aA];exact RE);have H:=fun x (h:x∈l)=>ih x h (fun y hy=>hx y (by rw [aA,bZ];exact RC _ (SN.2 ⟨x,h,hy⟩)));have C1:=jG b9 l hl H;have C2:=jG (fun x=> !b9 x) l hl (fun x h=>yV x (H x h))
  have e1:l.all b9 = !l.any (fun x=> !b9 x):=by simp [List.all_eq_not_any_not]
  simp only [bE,Ex.kind,Ex.label,Ex.kids,b9,pA,pz]
  by_cases h4:k=4
  ·subst h4
   (refine ah.enter Tryz.func181 rfl (by kernel_rfl) (by kernel_rfl) rfl (by first|rfl|(simp only [go_sem,SE,R0,R3])) (by first|rfl|(simp only [go_sem,SE,R0,R3])) ?_;simp only [Tryz.ntmps181,Tryz.results181,QI,QC,Nat.reduceAdd,Nat.reduceSub,SG,SH,SB,SA])
   repeat (first|(with_reducible first|refine af.up ?_|refine fun (K:AK) hK=> ?_|(refine hK _ ?_;clear hK K))|simp only [go_sem]|with_reducible refine wA ?_|clear hK K)
  ·by_cases h6:k=6
   ·subst h6
    (refine ah.enter Tryz.func181 rfl (by kernel_rfl) (by kernel_rfl) rfl (by first|rfl|(simp only [go_sem,SE,R0,R3])) (by first|rfl|(simp only [go_sem,SE,R0,R3])) ?_;simp only [Tryz.ntmps181,Tryz.results181,QI,QC,Nat.reduceAdd,Nat.reduceSub,SG,SH,SB,SA])
    repeat (first|(with_reducible first|refine af.up ?_|refine fun (K:AK) hK=> ?_|(refine hK _ ?_;clear hK K))|simp only [go_sem]|with_reducible refine wA ?_|clear hK K)
   ·by_cases h3:k=3
    ·subst h3
     (refine ah.enter Tryz.func181 rfl (by kernel_rfl) (by kernel_rfl) rfl (by first|rfl|(simp only [go_sem,SE,R0,R3])) (by first|rfl|(simp only [go_sem,SE,R0,R3])) ?_;simp only [Tryz.ntmps181,Tryz.results181,QI,QC,Nat.reduceAdd,Nat.reduceSub,SG,SH,SB,SA])
     repeat (first|(with_reducible first|refine af.up ?_|refine fun (K:AK) hK=> ?_|(refine hK _ ?_;clear hK K))|simp only [go_sem]|with_reducible refine wA ?_|clear hK K)
     refine ae.one C1 ?_
     repeat (first|(with_reducible first|refine af.up ?_|refine fun (K:AK) hK=> ?_|(refine hK _ ?_;clear hK K))|simp only [go_sem]|with_reducible refine wA ?_|clear hK K)
    ·by_cases h2:k=2
     ·subst h2
      (refine ah.enter Tryz.func181 rfl (by kernel_rfl) (by kernel_rfl) rfl (by first|rfl|(simp only [go_sem,SE,R0,R3])) (by first|rfl|(simp only [go_sem,SE,R0,R3])) ?_;simp only [Tryz.ntmps181,Tryz.results181,QI,QC,Nat.reduceAdd,Nat.reduceSub,SG,SH,SB,SA])
      repeat (first|(with_reducible first|refine af.up ?_|refine fun (K:AK) hK=> ?_|(refine hK _ ?_;clear hK K))|simp only [go_sem]|with_reducible refine wA ?_|clear hK K)
      refine ae.one C2 ?_
      repeat (first|(with_reducible first|refine af.up ?_|refine fun (K:AK) hK=> ?_|(refine hK _ ?_;clear hK K))|simp only [go_sem]|with_reducible refine wA ?_|clear hK K)
      rw [e1]
     ·by_cases h5:k=5
      ·subst h5
       (refine ah.enter Tryz.func181 rfl (by kernel_rfl) (by kernel_rfl) rfl (by first|rfl|(simp only [go_sem,SE,R0,R3])) (by first|rfl|(simp only [go_sem,SE,R0,R3])) ?_;simp only [Tryz.ntmps181,Tryz.results181,QI,QC,Nat.reduceAdd,Nat.reduceSub,SG,SH,SB,SA])
       repeat (first|(with_reducible first|refine af.up ?_|refine fun (K:AK) hK=> ?_|(refine hK _ ?_;clear hK K))|simp only [go_sem]|with_reducible refine wA ?_|clear hK K)
       refine ae.one C2 ?_
       repeat (first|(with_reducible first|refine af.up ?_|refine fun (K:AK) hK=> ?_|(refine hK _ ?_;clear hK K))|simp only [go_sem]|with_reducible refine wA ?_|clear hK K)
       rw [e1]
      ·have f4:(k==4)=false:=beq_false_of_ne h4;have f6:(k==6)=false:=beq_false_of_ne h6;have f3:(k==3)=false:=beq_false_of_ne h3;have f2:(k==2)=false:=beq_false_of_ne h2;have f5:(k==5)=false:=beq_false_of_ne h5;simp only [if_neg h4,if_neg h6,if_neg h3,if_neg h2,if_neg h5]
       (refine ah.enter Tryz.func181 rfl (by kernel_rfl) (by kernel_rfl) rfl (by first|rfl|(simp only [go_sem,SE,R0,R3])) (by first|rfl|(simp only [go_sem,SE,R0,R3])) ?_;simp only [Tryz.ntmps181,Tryz.results181,QI,QC,Nat.reduceAdd,Nat.reduceSub,SG,SH,SB,SA])
       repeat (first|(with_reducible first|refine af.up ?_|refine fun (K:AK) hK=> ?_|(refine hK _ ?_;clear hK K))|simp only [go_sem,f4,f6,f3,f2,f5]|with_reducible refine wA ?_|clear hK K)
def jV (x:Ex):Bool:=aV x&&b9 x
theorem zm {x:Ex} (h:aV x=true):x.lens 1000000:=fun y hy=>by
 simp only [aV,Rq,decide_eq_true_eq] at h;have h1:=nr x y hy;have h2:=tQ y;omega
theorem zH (x:Ex) (h:x.ok):ah Tryz.prog 145 [.agg (bn x)] (.v (.bool (jV x))):=by
 have R:=rU x h
 rcases SO (aV x) with hr|hr
 ·have E:=GF x (zm hr);rw [hr] at R;rw [show jV x=b9 x by rw [jV,hr];rfl];simp only [bE] at R E ⊢
  (refine ah.enter Tryz.func145 rfl (by kernel_rfl) (by kernel_rfl) rfl (by first|rfl|(simp only [go_sem,SE,R0,R3])) (by first|rfl|(simp only [go_sem,SE,R0,R3])) ?_;simp only [Tryz.ntmps145,Tryz.results145,QI,QC,Nat.reduceAdd,Nat.reduceSub,SG,SH,SB,SA])
  repeat (first|(with_reducible first|refine af.up ?_|refine fun (K:AK) hK=> ?_|(refine hK _ ?_;clear hK K))|simp only [go_sem]|clear hK K)
  refine ae.one R ?_
  repeat (first|(with_reducible first|refine af.up ?_|refine fun (K:AK) hK=> ?_|(refine hK _ ?_;clear hK K))|simp only [go_sem]|clear hK K)
  refine ae.one E ?_
  repeat (first|(with_reducible first|refine af.up ?_|refine fun (K:AK) hK=> ?_|(refine hK _ ?_;clear hK K))|simp only [go_sem]|clear hK K)
 ·rw [hr] at R;rw [show jV x=false by rw [jV,hr];rfl];simp only [bE] at R ⊢
  (refine ah.enter Tryz.func145 rfl (by kernel_rfl) (by kernel_rfl) rfl (by first|rfl|(simp only [go_sem,SE,R0,R3])) (by first|rfl|(simp only [go_sem,SE,R0,R3])) ?_;simp only [Tryz.ntmps145,Tryz.results145,QI,QC,Nat.reduceAdd,Nat.reduceSub,SG,SH,SB,SA])
  repeat (first|(with_reducible first|refine af.up ?_|refine fun (K:AK) hK=> ?_|(refine hK _ ?_;clear hK K))|simp only [go_sem]|clear hK K)
  refine ae.one R ?_
  repeat (first|(with_reducible first|refine af.up ?_|refine fun (K:AK) hK=> ?_|(refine hK _ ?_;clear hK K))|simp only [go_sem,Go.undef]|clear hK K)
theorem Ci (x:Ex) (h:(aA x).all Ex.part=true) (hn:(aA x).length<=900):Fit x∧xU x:=by
 induction x using Ex.ind with
 | h k s l ih=>
  have hp:bO k s l.length=true:=RH.1 h (.mk k s l) (by rw [aA];exact RE)
  have hm: ∀x,x∈l->x∈aA (.mk k s l):=fun x hx=>by
   rw [aA,bZ];exact RC _ (SN.2 ⟨x,hx,by obtain ⟨k',s',l'⟩:=x;rw [aA];exact RE⟩)
  have H:=fun x (hx:x∈l)=>ih x hx (RH.2 fun y hy=>RH.1 h y (by rw [aA,bZ];exact RC _ (SN.2 ⟨x,hx,hy⟩))) (by
   have h1:=nr (.mk k s l) x (hm x hx)
   omega)
  have hl:l.length<=900:=by have:=tQ (.mk k s l);simp only [Ex.kids] at this;omega
  unfold bO at hp
  by_cases h1:k=1
  ·subst h1;simp only [BEq.rfl,if_true,Rq,decide_eq_true_eq] at hp;have hl0:l=[]:=Rg hp.1;subst hl0;exact ⟨.lab s, .lab s⟩
  ·rw [if_neg (by simpa using h1)] at hp
   by_cases h2:k=2∨k=3
   ·rw [if_pos (by simpa using h2)] at hp;simp only [Rq,decide_eq_true_eq] at hp;exact ⟨.many k s l h2 hp.1 (fun x hx=>(H x hx).1), .many k s l h2 hl (fun x hx=>(H x hx).2)⟩
   ·rw [if_neg (by simpa using h2)] at hp
    by_cases h3:k=4∨k=5∨k=6
    ·rw [if_pos (by simpa [or_assoc] using h3)] at hp;simp only [Rq,decide_eq_true_eq] at hp
     obtain ⟨x,rfl⟩: ∃x,l=[x]:=by
      match l,hp.1 with
      | [x],_=>exact ⟨x,rfl⟩
     exact ⟨.one k s x h3 (H x (by simp)).1, .one k s x h3 (H x (by simp)).2⟩
    ·rw [if_neg (by simpa [or_assoc] using h3)] at hp;cases hp
theorem sN {x:Ex} (h:aV x=true):Fit x∧xU x:=by
 simp only [aV,Rq,decide_eq_true_eq] at h;exact Ci x h.2 (by omega)
noncomputable def GI (x:Ex) (w:List ByteArray):Bool:=aV x && @decide (Lg x w) (Classical.propDecidable _)
end
section
theorem ku (n:Int):IntKind.u32.wrap n=n % 4294967296:=by simp [IntKind.wrap,IntKind.signed,IntKind.bits]
theorem zw (m:BitVec 32):IntKind.u32.wrap (m.toNat:Int)=m.toNat:=by
 rw [ku];have:=m.isLt;omega
theorem gO (m:BitVec 32):BitVec.ofInt 32 (m.toNat:Int)=m:=by
 simp
theorem Aa (m:BitVec 32):IntKind.u32.wrap ((m.toNat:Int) - 1)=(m - 1#32).toNat:=by
 rw [ku,BitVec.toNat_sub];have:=m.isLt;simp;omega
theorem Ha (m:BitVec 32):IntKind.u32.wrap (0 - (m.toNat:Int))=(-m).toNat:=by
 rw [ku,BitVec.toNat_neg];have:=m.isLt;omega
theorem G9 (m:BitVec 32):IntKind.u32.wrap ((m.toNat:Int) * 125613361)=(m * 125613361#32).toNat:=by
 rw [ku,BitVec.toNat_mul];simp
theorem He (m:BitVec 32):(m.toNat:Int).fdiv (2 ^ min 27 32)=(m >>> 27).toNat:=by
 show (m.toNat:Int).fdiv (2 ^ 27)=_;rw [BitVec.toNat_ushiftRight,Nat.shiftRight_eq_div_pow];simp [Int.fdiv_eq_ediv_of_nonneg]
theorem Hd (p:Nat):IntKind.u32.wrap (1 * 2 ^ p)=(1#32 <<< p).toNat:=by
 rw [ku,BitVec.toNat_shiftLeft,Nat.shiftLeft_eq];simp
theorem Hc (m:BitVec 32):decide ((0:Int)<(m.toNat:Int))=(m !=0#32):=by
 by_cases h:m=0#32
 ·subst h;simp
 ·have e:m.toNat≠0:=fun e=>h (SP (by simpa using e));rw [bne_iff_ne.2 h];exact decide_eq_true (by omega)
theorem EO (m:BitVec 32):((m.toNat:Int)==0)=(m==0#32):=by
 by_cases h:m=0#32
 ·subst h;simp
 ·have e:m.toNat≠0:=fun e=>h (SP (by simpa using e));rw [beq_eq_false_iff_ne.2 h];exact beq_eq_false_iff_ne.2 (by omega)
theorem tZ (m n:BitVec 32):En .u32 m.toNat n.toNat=(m &&& n).toNat:=by
 rw [En];show IntKind.u32.wrap ((BitVec.ofInt 32 _ &&& BitVec.ofInt 32 _).toNat:Int)=_;rw [gO,gO,zw]
theorem js (m n:BitVec 32):MI .u32 m.toNat n.toNat=(m ||| n).toNat:=by
 rw [MI];show IntKind.u32.wrap ((BitVec.ofInt 32 _ ||| BitVec.ofInt 32 _).toNat:Int)=_;rw [gO,gO,zw]
theorem Hb (m n:BitVec 32):oM .u32 m.toNat n.toNat=(m &&& ~~~ n).toNat:=by
 rw [oM];show IntKind.u32.wrap ((BitVec.ofInt 32 _ &&& ~~~ BitVec.ofInt 32 _).toNat:Int)=_;rw [gO,gO,zw]
def ay (m:BitVec 32):List Nat:=(List.range 32).filter m.getLsbD
theorem cq {m:BitVec 32} {p:Nat}:p∈ay m↔m.getLsbD p=true:=by
 simp only [ay,List.mem_filter,List.mem_range];exact ⟨fun h=>h.2,fun h=>⟨SQ h,h⟩⟩
theorem lv (m:BitVec 32):(ay m).Pairwise (· < ·):=List.pairwise_lt_range.filter _
theorem Bt (m:BitVec 32):(ay m).length<=32:=by
 have:=List.length_filter_le m.getLsbD (List.range 32)
 simpa [ay] using this
theorem ji:ay 0#32=[]:=by simp [ay]
theorem Bu {m:BitVec 32} (h:ay m=[]):m=0#32:=by
 refine SR fun i hi=> ?_
 cases hb:m.getLsbD i with
 | false=>simp
 | true=>have:=cq.2 hb;rw [h] at this;cases this
theorem mj {m:BitVec 32} {p:Nat} {r:List Nat} (h:ay m=p :: r):m.getLsbD p=true∧p<32∧(∀j,j<p->m.getLsbD j=false)∧ ∀j,j∈r↔(m.getLsbD j=true∧p<j):=by
 have hm:m.getLsbD p=true:=cq.1 (by rw [h];simp);have hr:=lv m;rw [h,List.pairwise_cons] at hr
 refine ⟨hm,SQ hm,fun j hj=> ?_,fun j=>⟨fun hj=>⟨cq.1 (by rw [h];exact RC _ hj),hr.1 j hj⟩,fun hj=> ?_⟩⟩
 ·cases hb:m.getLsbD j with
  | false=>rfl
  | true=>
   have:=cq.2 hb
   rw [h,Sj] at this
   rcases this with rfl|hh
   ·omega
   ·have:=hr.1 j hh;omega
 ·have:=cq.2 hj.1
  rw [h,Sj] at this
  rcases this with rfl|hh
  ·omega
  ·exact hh
theorem G6 {m:BitVec 32} {p:Nat} {r:List Nat} (h:ay m=p :: r):m &&& -m=1#32 <<< p:=by
 obtain ⟨h1,h2,h3,h4⟩:=mj h;refine SR fun i hi=> ?_;rw [SS,SU,BitVec.getLsbD_shiftLeft,BitVec.getLsbD_one]
 rcases Nat.lt_trichotomy i p with q|q|q
 ·simp [h3 i q,q]
 ·subst q
  have: ¬ ∃j,j<i∧m.getLsbD j=true:=fun ⟨j,a,b⟩=>by rw [h3 j a] at b;cases b
  rw [h1,decide_eq_false this];simp [hi]
 ·have: ∃j,j<i∧m.getLsbD j=true:=⟨p,q,h1⟩
  have e:i - p≠0:=by omega
  simp [this,hi,e]
theorem EJ {m:BitVec 32} {p:Nat} {r:List Nat} (h:ay m=p :: r):ay (m &&& (m - 1#32))=r:=by
 obtain ⟨h1,h2,h3,h4⟩:=mj h;have hr:=lv m;rw [h,List.pairwise_cons] at hr
 have key: ∀j,(m &&& (m - 1#32)).getLsbD j=true↔j∈r:=fun j=>by
  rw [h4, <- BitVec.not_neg,SS,BitVec.getLsbD_not,SU]
  rcases Nat.lt_or_ge p j with q|q
  ·have: ∃k,k<j∧m.getLsbD k=true:=⟨p,q,h1⟩
   by_cases hj:m.getLsbD j=true
   ·have:=SQ hj
    simp_all
   ·simp_all
  ·by_cases hj:m.getLsbD j=true
   ·have e:j=p:=by
     rcases Nat.lt_or_ge j p with a|a
     ·rw [h3 j a] at hj;cases hj
     ·omega
    subst e
    have: ¬ ∃k,k<j∧m.getLsbD k=true:=fun ⟨k,a,b⟩=>by rw [h3 k a] at b;cases b
    rw [h1,decide_eq_false this];simp [h2]
   ·simp_all
 exact qA (lv _) hr.2 (fun j=>cq.trans (key j))
def aP (m:BitVec 32):AV:= .v (.int .u32 m.toNat)
def xm:List Int:=[0,1,28,2,29,14,24,3,30,22,20,15,25,17,4,8,31,27,13,23,21,19,16,7,26,12,18,6,11,5,10,9]
theorem J0: ∀p:Nat,p<32->xm[((1#32 <<< p * 125613361#32) >>> 27).toNat]? = some (p:Int):=by decide
theorem Jm (s:AS):s.ev (.global 0) = .vp (xm.map fun i=> .v (.int .u8 i)):=rfl
theorem GC {l:List Int} {f:Int->AV} {n:Nat} {x:Int} (e:l[n]? = some x): ∃r,(l.map f).drop n=f x :: r:=by
 obtain ⟨h1,h2⟩:=QD.1 e;exact ⟨_,by rw [RT (by simpa using h1),List.getElem_map,h2]⟩
theorem FE {p:Nat} (hp:p<32): ∃n r,((1#32 <<< p * 125613361#32) >>> 27).toNat=n∧n<32∧(xm.map fun i=>AV.v (.int .u8 i)).drop n = .v (.int .u8 p) :: r:=by
 have e:=J0 p hp;generalize ((1#32 <<< p * 125613361#32) >>> 27).toNat=n at *;obtain ⟨r,h⟩:=GC (f:=fun i=>AV.v (.int .u8 i)) e;exact ⟨n,r,rfl,(QD.1 e).1,h⟩
theorem J6 {m:BitVec 32} {p:Nat} {r:List Nat} (h:ay m=p :: r): ∃(M N1 N2 N3:Int) (n:Nat) (r':List AV),(m.toNat:Int)=M∧(M==0)=false∧IntKind.u32.wrap (0 - M)=N1∧En .u32 M N1=N2∧IntKind.u32.wrap (N2 * 125613361)=N3 ∧
  N3.fdiv (2 ^ min 27 32)=n∧n<32∧(xm.map fun i=>AV.v (.int .u8 i)).drop (n * 1) = .v (.int .u8 p) :: r':=by
 have hp:=(mj h).2.1
 have hm:m≠0#32:=fun e=>by rw [e,ji] at h;cases h
 obtain ⟨n,r',eN,hn,eI⟩:=FE hp;refine ⟨_,_,_,_,n,r',rfl,by rw [EO];exact beq_eq_false_iff_ne.2 hm,rfl,rfl,rfl, ?_,hn,by rw [Nat.mul_one];exact eI⟩;rw [Ha,tZ,G6 h,G9,He,eN]
theorem OW {m:BitVec 32} {p:Nat} {r:List Nat} (h:ay m=p :: r):ah Tryz.prog 232 [aP m] (.v (.int .i64 p)):=by
 have hp:=(mj h).2.1;obtain ⟨M,N1,N2,N3,n,r',e0,z1,e1,e2,e3,e4,hn,eI⟩:=J6 h;simp only [aP,e0]
 (refine ah.enter Tryz.func232 rfl (by kernel_rfl) (by kernel_rfl) rfl (by first|rfl|(simp only [go_sem,Bool.and_self,Bool.and_true,Bool.true_and])) (by first|rfl|(simp only [go_sem,Bool.and_self,Bool.and_true,Bool.true_and])) ?_;simp only [Tryz.ntmps232,Tryz.results232,QI,QC,Nat.reduceAdd,Nat.reduceSub,SG,SH,SB,SA])
 repeat (first|(with_reducible first|refine af.up ?_|refine fun (K:AK) hK=> ?_|(refine hK _ ?_;clear hK K))|simp only [go_sem,z1,e1,e2,e3,e4,Jm,eI]|with_reducible refine wA ?_|clear hK K)
 have eW:IntKind.i64.wrap (p:Int)=p:=fE (by omega) (by omega)
 repeat (first|(with_reducible first|refine af.up ?_|refine fun (K:AK) hK=> ?_|(refine hK _ ?_;clear hK K))|simp only [go_sem,eW]|with_reducible refine wA ?_|clear hK K)
def ly (m:BitVec 32):aa:=⟨180,1,false,[[aP m]]⟩
theorem BF (p:Nat) (l:List Nat):az (p :: l)=[.v (.int .i64 p)] :: az l:=rfl
theorem Gi (m:BitVec 32):gU Tryz.prog 231 [.ptr 0 0 1 0 0] [some (ly m)] (az (ay m)):=by
 simp only [ly,aP]
 (refine gU.enter Tryz.func231 rfl (by kernel_rfl) (by kernel_rfl) rfl (fun l=> ?_);simp only [Tryz.ntmps231,Tryz.results231,QI,QC,Nat.reduceAdd,Nat.reduceSub,SG,SH,SB,SA])
 repeat (first|(with_reducible first|refine af.up ?_|refine fun (K:AK) hK=> ?_|(refine hK _ ?_;clear hK K))|simp only [go_sem]|clear hK K)
 refine fJ (ι:=BitVec 32) 3 (fun i=>[]) (fun i=>[some (ly i)]) (fun i=> .run l (az (ay i))) (fun i=>(ay i).length) (fun _=>True) m trivial ?_ ?_
 ·simp only [ly,aP]
  (refine aj ?_ ?_ ?_<;>simp only [aT,List.foldl_cons,List.foldl_nil,SG,SH,bj,bg,AV.v.injEq,Value.int.injEq,Value.bool.injEq,Value.string.injEq,AV.vec.injEq,AV.ptr.injEq,true_or,or_true,false_or,or_false,aa.mk.injEq,forall_eq_apply_imp_iff,forall_eq,forall_eq',go_sem])
 ·rintro i hi K hK;simp only [ly,aP]
  repeat (first|(with_reducible first|refine af.up ?_|refine fun (K:AK) hK=> ?_|(refine hK _ ?_;clear hK K))|simp only [go_sem,Hc]|clear hK K)
  refine cQ.part (fun h=> ?_) (fun h=> ?_)
  ·cases hb:ay i with
   | nil=>rw [Bu hb] at h;simp at h
   | cons p r=>
    have C:=OW hb;have eY:=BF p r;have hR:=EJ hb;simp only [aP] at C
    repeat (first|(with_reducible first|refine af.up ?_|refine fun (K:AK) hK=> ?_|(refine hK _ ?_;clear hK K))|simp only [go_sem]|clear hK K)
    refine ae.one C ?_
    repeat' (first|(with_reducible first|refine af.up ?_|refine fun (K:AK) hK=> ?_|(refine hK _ ?_;clear hK K))|simp only [go_sem,eY,Aa,tZ]|clear hK K|(with_reducible refine ae.one (by assumption) ?_)|(with_reducible refine bc.one (by assumption) ?_)|(refine cQ.part (fun hb=> ?_) (fun hb=> ?_)<;>simp only [hb,go_sem,eY,Aa,tZ])|(refine cQ.part (fun hb=> ?_) (fun hb=> ?_))|(with_reducible refine dZ.mk ?_ ?_))
    ·refine aQ.mk (i &&& (i - 1#32)) trivial ?_ ?_
     ·rw [hR,hb];simp
     ·rw [hR];simp only [ly,aP];(refine aj ?_ ?_ ?_<;>simp only [aT,List.foldl_cons,List.foldl_nil,SG,SH,bj,bg,AV.v.injEq,Value.int.injEq,Value.bool.injEq,Value.string.injEq,AV.vec.injEq,AV.ptr.injEq,true_or,or_true,false_or,or_false,aa.mk.injEq,forall_eq_apply_imp_iff,forall_eq,forall_eq',go_sem])
    ·exact .inr trivial
  ·have e1:i=0#32:=by simpa using h
   subst e1;simp only [ji,az,List.map_nil]
   repeat (first|(with_reducible first|refine af.up ?_|refine fun (K:AK) hK=> ?_|(refine hK _ ?_;clear hK K))|simp only [go_sem]|clear hK K)
   exact .inl trivial
theorem mB (m:BitVec 32):bG Tryz.prog 211 [aP m] [] (.fn 231 [] [.ptr 0 0 1 0 0]) [some (ly m)]:=by
 simp only [ly,aP]
 (refine bG.enter Tryz.func211 rfl (by kernel_rfl) (by kernel_rfl) rfl ?_;simp only [Tryz.ntmps211,Tryz.results211,QI,QC,Nat.reduceAdd,Nat.reduceSub,SG,SH,SB,SA])
 repeat (first|(with_reducible first|refine af.up ?_|refine fun (K:AK) hK=> ?_|(refine hK _ ?_;clear hK K))|simp only [go_sem]|with_reducible refine wA ?_|clear hK K)
 (refine ⟨?_, ?_, ?_⟩<;>simp only [bj,bg,AV.v.injEq,Value.int.injEq,Value.bool.injEq,Value.string.injEq,AV.vec.injEq,AV.ptr.injEq,true_or,or_true,false_or,or_false,aa.mk.injEq,forall_eq_apply_imp_iff,forall_eq,forall_eq',go_sem])
open Go.ChangeShapes Go.WideShapes Go.ChangeAt Go.RowKit
theorem EK {P:Program} {w:World} {n:String} {d:DataW Unit}: ∀(laid:List (String×DataW Unit)) (ps:List MemPlace),DataW.LaidVars P w laid ps->(n,d)∈laid ->
  ∃g t cs fuel p,P.globalNamed n=some g∧(P.globals[g]?).map (·.type)=some t∧w.var? P n=some cs∧DataW.trod (fun _=>()) P w 0 (fun _=>true) false fuel t cs.toList=some (d,p)∧ ∀m∈MemPlace.row ⟨g,0,none⟩ cs.size,m∈ps
 | [],ps,h,hm=>by cases hm
 | (n',d') :: r,ps,h,hm=>by
  obtain ⟨g,t,cs,fuel,p,q,h1,h2,h3,h4,h5,rfl⟩:=h
  rcases Sj.1 hm with e|hm
  ·cases e;exact ⟨g,t,cs,fuel,p,h1,h2,h3,h4,fun m hm=>SV _ (SV _ hm)⟩
  ·obtain ⟨g',t',cs',fuel',p',k1,k2,k3,k4,k5⟩:=EK r q h5 hm;exact ⟨g',t',cs',fuel',p',k1,k2,k3,k4,fun m hm=>List.mem_append_right _ (k5 m hm)⟩
theorem xn {P:Program} {w:World} {n:String} {laid:List (String×DataW Unit)} {d:DataW Unit} {g:Nat} {T E:TypeId} {k:IntKind} {N:Nat} (vals:List Int) (hm:(n,d)∈laid) (hd:d = .agg (vals.map fun i=> .lit (.int k i))) (hG:P.globalNamed n=some g) (hT:(P.globals[g]?).map (·.type)=some T) (uT:P.underlying T=some (.array N E)) (uE:P.underlying E=some (.int k))
  (cE:P.cellsOf E=1) (cT:P.cellsOf T=N) (hN:0<N) (hv:vals.length=N) (h:laidMet P laid w): ∃t,w.heap[g]? = some (.cells (vals.map (fun i=>Value.int k i)).toArray t (0,0)):=by
 obtain ⟨ps,hl,hnd,hc⟩:=h;obtain ⟨g0,t0,cs0,f0,p0,hg0,ht0,hv0,hd0,hps⟩:=EK _ _ hl hm;obtain rfl:=Qx (hG.symm.trans hg0);obtain rfl:=Qx (hT.symm.trans ht0);rw [hd] at hd0;obtain ⟨xs,m,rfl,hx,hlen,hn,hel⟩:=DataW.trod_array uT hd0
 have hxs:xs.map (·.1)=vals.map fun i=>(DataW.lit (.int k i):DataW Unit):=by
  simp only [Prod.mk.injEq,DataW.agg.injEq] at hx;exact hx.1.symm
 rw [cT] at hlen;rw [cE] at hel
 have hcs:cs0.toList=vals.map (fun i=>Value.int k i):=by
  refine List.ext_getElem (by rw [hlen,List.length_map,hv]) fun i h1 h2=> ?_
  have hi:i<N:=by omega
  have e1:=hel i hi;rw [Nat.mul_one,RT h1,List.take_succ_cons,List.take_zero] at e1
  have hix:i<xs.length:=by omega
  rw [QS hix] at e1;obtain ⟨n,k1,k2,_⟩:=DataW.trod_int uE e1
  have e2:(xs.map (·.1))[i]? = (vals.map fun i=>(DataW.lit (.int k i):DataW Unit))[i]? :=by rw [hxs]
  have hit:i<vals.length:=by omega
  rw [List.getElem?_map,List.getElem?_map,QS hix,QS hit,k2] at e2;simp only [Option.map_some,QO,DataW.lit.injEq,Lit.int.injEq,true_and] at e2;rw [List.getElem_map, <- e2];exact (List.cons.inj k1).1
 obtain ⟨⟨c,t,hb⟩,_⟩:=hc g 0 (hps _ (by
  rw [MemPlace.row,List.mem_map];refine ⟨0, ?_,rfl⟩
  rw [List.mem_range, <- Array.length_toList,hlen];exact hN))
 simp only [World.var?,hG,Option.bind_some,hb,QO] at hv0;refine ⟨t, ?_⟩;rw [hb,hv0, <- hcs,Array.toArray_toList]
def Mm:List Int:=[1,10,100,1000,10000,100000,1000000,10000000,100000000,1000000000,10000000000,100000000000,1000000000000,10000000000000,100000000000000,1000000000000000,10000000000000000,100000000000000000,1000000000000000000,10000000000000000000]
theorem BO {w:World} (h:laidMetH Tryz.prog [("math/bits.deBruijn32tab", Rows.laid_math_bits_deBruijn32tab),("math/bits.deBruijn64tab", Rows.laid_math_bits_deBruijn64tab),("internal/strconv.uint64pow10", Rows.laid_internal_strconv_uint64pow10)] w):ec (fun _=>True) (fun _ _=>Go.undef) [] w:=by
 rw [MakeChecks.laidMetH_plain _ _ _ (by kernel_rfl)] at h
 have h1:=xn (P:=Tryz.prog) (g:=0) (T:=278) (E:=5) (k:= .u8) (N:=32) (n:= "math/bits.deBruijn32tab") xm (List.mem_cons_self) rfl (by kernel_rfl) (by kernel_rfl) (by kernel_rfl) (by kernel_rfl) (by kernel_rfl) (by kernel_rfl) (by decide) rfl h
 have h2:=xn (P:=Tryz.prog) (g:=1) (T:=289) (E:=261) (k:= .u64) (N:=20) (n:= "internal/strconv.uint64pow10") Mm (RC _ (RC _ List.mem_cons_self)) rfl (by kernel_rfl) (by kernel_rfl) (by kernel_rfl) (by kernel_rfl) (by kernel_rfl) (by kernel_rfl) (by decide) rfl h
 intro g T cs hg;unfold rZ at hg;refine ⟨?_,qi _ _,trivial⟩
 split at hg
 ·rename_i e;obtain ⟨-, rfl⟩:=Prod.mk.inj (Qx hg);subst e;exact h1
 ·split at hg
  ·rename_i e;obtain ⟨-, rfl⟩:=Prod.mk.inj (Qx hg);subst e;exact h2
  ·cases hg
end
section
theorem I8 (q:fF) (names:List ByteArray) (k:Int) (hp:q.au.length<=1000000) (hk: -9223372036854775808<=k∧k<9223372036854775808) :
  ah Tryz.prog 108 [.agg (b8 q),aS names, .v (.int .i64 k)] (.v (.int .i64 (gz q.au names k:Nat))):=by
 obtain ⟨ps,cs,rs,ra,sl⟩:=q;have hU:=Mu (k:=k) hk.1 hk.2 hp;simp only [b8,aS] at *
 (refine ah.enter Tryz.func108 rfl (by kernel_rfl) (by kernel_rfl) rfl (by first|rfl|(simp only [go_sem,SE,R0,R3])) (by first|rfl|(simp only [go_sem,SE,R0,R3])) ?_;simp only [Tryz.ntmps108,Tryz.results108,QI,QC,Nat.reduceAdd,Nat.reduceSub,SG,SH,SB,SA])
 repeat (first|(with_reducible first|refine af.up ?_|refine fun (K:AK) hK=> ?_|(refine hK _ ?_;clear hK K))|simp only [go_sem]|with_reducible refine wA ?_|clear hK K)
 by_cases hin:0<=k∧k<ps.length
 ·rw [decide_eq_true hin] at hU
  have hlt2:k.toNat<ps.length:=by omega
  have eG:=getD_map bH ps k.toNat [] hlt2
  have eN:gz ps names k=rk (hasB names ps[k.toNat].aT)+rk (hasB names ps[k.toNat].to):=by
   rw [gz,if_pos hin,QS hlt2]
  generalize ps[k.toNat]=pp at eG eN;have C1:=dP names pp.aT;have C2:=dP names pp.to;simp only [aS] at C1 C2;simp only [bH] at eG
  repeat (first|(with_reducible first|refine af.up ?_|refine fun (K:AK) hK=> ?_|(refine hK _ ?_;clear hK K))|simp only [go_sem,hU,eG]|with_reducible refine wA ?_|clear hK K)
  refine dq (ι:=Nat) 28 (fun i=>[(27, .v (.int .i64 i)),(6, .v (.int .i64 (if i=0 then 0 else if i=1 then rk (hasB names pp.aT) else rk (hasB names pp.aT)+rk (hasB names pp.to):Nat))),(9, .undef)]) (fun i=>2 - i) (fun i=>i<=2) 0 (by omega) ?_ ?_
  ·(refine aj ?_ ?_ ?_<;>simp only [aT,R8,Sb,SG,SH,bj,bg,AV.v.injEq,Value.int.injEq,Value.bool.injEq,Value.string.injEq,AV.vec.injEq,AV.ptr.injEq,true_or,or_true,false_or,or_false,aa.mk.injEq,forall_eq_apply_imp_iff,forall_eq,forall_eq',go_sem])
   rfl
  rintro i hi K hK;have c0:((0:Nat):Int)=0:=rfl;have c1:((1:Nat):Int)=1:=rfl;have c2:((2:Nat):Int)=2:=rfl;have o0:rk false=0:=rfl;have o1:rk true=1:=rfl;have w1:IntKind.i64.wrap ((0:Int)+1)=1:=rfl;have w2:IntKind.i64.wrap ((1:Int)+1)=2:=rfl
  have hi3:i=0∨i=1∨i=2:=by omega
  rcases hi3 with hi0|hi0|hi0
  ·repeat (first|(with_reducible first|refine af.up ?_|refine fun (K:AK) hK=> ?_|(refine hK _ ?_;clear hK K))|simp only [go_sem,hi0,c0,c1,c2,decide_true,decide_false]|with_reducible refine wA ?_|clear hK K)
   refine ae.one C1 ?_
   rcases SO (hasB names pp.aT) with ha|ha
   ·repeat (first|(with_reducible first|refine af.up ?_|refine fun (K:AK) hK=> ?_|(refine hK _ ?_;clear hK K))|simp only [go_sem,ha,o1,w1]|with_reducible refine wA ?_|clear hK K)
    exact aQ.mk 1 (by omega) (by omega) (by
     (try simp only [ha]);(refine aj ?_ ?_ ?_<;>simp only [aT,R8,Sb,SG,SH,bj,bg,AV.v.injEq,Value.int.injEq,Value.bool.injEq,Value.string.injEq,AV.vec.injEq,AV.ptr.injEq,true_or,or_true,false_or,or_false,aa.mk.injEq,forall_eq_apply_imp_iff,forall_eq,forall_eq',go_sem])
     all_goals first|rfl|exact ⟨rfl,rfl⟩|trace_state)
   ·repeat (first|(with_reducible first|refine af.up ?_|refine fun (K:AK) hK=> ?_|(refine hK _ ?_;clear hK K))|simp only [go_sem,ha,o0,w1]|with_reducible refine wA ?_|clear hK K)
    exact aQ.mk 1 (by omega) (by omega) (by
     (try simp only [ha]);(refine aj ?_ ?_ ?_<;>simp only [aT,R8,Sb,SG,SH,bj,bg,AV.v.injEq,Value.int.injEq,Value.bool.injEq,Value.string.injEq,AV.vec.injEq,AV.ptr.injEq,true_or,or_true,false_or,or_false,aa.mk.injEq,forall_eq_apply_imp_iff,forall_eq,forall_eq',go_sem])
     all_goals first|rfl|exact ⟨rfl,rfl⟩|trace_state)
  ·repeat (first|(with_reducible first|refine af.up ?_|refine fun (K:AK) hK=> ?_|(refine hK _ ?_;clear hK K))|simp only [go_sem,hi0,c0,c1,c2,decide_true,decide_false]|with_reducible refine wA ?_|clear hK K)
   refine ae.one C2 ?_
   rcases SO (hasB names pp.aT) with ha|ha<;>rcases SO (hasB names pp.to) with hb|hb
   all_goals
    repeat (first|(with_reducible first|refine af.up ?_|refine fun (K:AK) hK=> ?_|(refine hK _ ?_;clear hK K))|simp only [go_sem,ha,hb,o0,o1,w1,w2]|with_reducible refine wA ?_|clear hK K)
    exact aQ.mk 2 (by omega) (by omega) (by
     (try simp only [ha,hb]);(refine aj ?_ ?_ ?_<;>simp only [aT,R8,Sb,SG,SH,bj,bg,AV.v.injEq,Value.int.injEq,Value.bool.injEq,Value.string.injEq,AV.vec.injEq,AV.ptr.injEq,true_or,or_true,false_or,or_false,aa.mk.injEq,forall_eq_apply_imp_iff,forall_eq,forall_eq',go_sem])
     all_goals first|rfl|exact ⟨rfl,rfl⟩|(simp only [ha,hb,o0,o1];first|rfl|exact ⟨rfl,rfl⟩)|trace_state)
  ·repeat (first|(with_reducible first|refine af.up ?_|refine fun (K:AK) hK=> ?_|(refine hK _ ?_;clear hK K))|simp only [go_sem,hi0,c0,c1,c2,decide_true,decide_false]|with_reducible refine wA ?_|clear hK K)
   rw [eN]
 ·rw [decide_eq_false hin] at hU
  have eN:gz ps names k=0:=by rw [gz,if_neg hin]
  repeat (first|(with_reducible first|refine af.up ?_|refine fun (K:AK) hK=> ?_|(refine hK _ ?_;clear hK K))|simp only [go_sem,hU]|with_reducible refine wA ?_|clear hK K)
  rw [eN];rfl
theorem vR (q:fF) (names:List ByteArray) (k:Nat) (hp:q.au.length<=1000000) (hk:k<q.au.length) :
  ah Tryz.prog 107 [.v (.int .i64 k), .vp (b8 q), .vp [aS names]] (.v (.int .i64 (dc q.au names k))):=by
 have C:=I8 q names (k:Int) hp (by omega);have hE:=vH q.au names (k:Int);obtain ⟨ps,cs,rs,ra,sl⟩:=q;simp only [b8,aS] at *;have eG:=getD_map bH ps k [] hk
 have eP:lH ps k=ps[k].path:=by rw [lH,QS hk]
 have eR:dc ps names k=2 * (gz ps names k:Int)+(if lH ps k then 0 else 1):=rfl;generalize ps[k]=pp at eG eP;simp only [bH] at eG;have w1:IntKind.i64.wrap (2 * (gz ps names k:Int))=2 * (gz ps names k:Int):=fE (by omega) (by omega);have w2:IntKind.i64.wrap (2 * (gz ps names k:Int)+1)=2 * (gz ps names k:Int)+1:=fE (by omega) (by omega)
 (refine ah.enter Tryz.func107 rfl (by kernel_rfl) (by kernel_rfl) rfl (by first|rfl|(simp only [go_sem,SE,R0,R3])) (by first|rfl|(simp only [go_sem,SE,R0,R3])) ?_;simp only [Tryz.ntmps107,Tryz.results107,QI,QC,Nat.reduceAdd,Nat.reduceSub,SG,SH,SB,SA])
 repeat (first|(with_reducible first|refine af.up ?_|refine fun (K:AK) hK=> ?_|(refine hK _ ?_;clear hK K))|simp only [go_sem]|with_reducible refine wA ?_|clear hK K)
 refine ae.one C ?_
 repeat (first|(with_reducible first|refine af.up ?_|refine fun (K:AK) hK=> ?_|(refine hK _ ?_;clear hK K))|simp only [go_sem,w1,eG]|with_reducible refine wA ?_|clear hK K)
 rcases SO pp.path with h|h
 ·repeat (first|(with_reducible first|refine af.up ?_|refine fun (K:AK) hK=> ?_|(refine hK _ ?_;clear hK K))|simp only [go_sem,h]|with_reducible refine wA ?_|clear hK K)
  rw [eR,eP,h,if_pos rfl,Int.add_zero]
 ·repeat (first|(with_reducible first|refine af.up ?_|refine fun (K:AK) hK=> ?_|(refine hK _ ?_;clear hK K))|simp only [go_sem,h,w2]|with_reducible refine wA ?_|clear hK K)
  rw [eR,eP,h,if_neg (by decide)]
theorem wZ (ps:List bV) (names:List ByteArray) (k:Nat):0<=dc ps names k∧dc ps names k<=5:=by
 have:=vH ps names (k:Int)
 unfold dc
 split<;>omega
theorem Ee (q:fF) (names:List ByteArray) (a b:Nat) (hp:q.au.length<=1000000) (ha:a<q.au.length) (hb:b<q.au.length) :
  ah Tryz.prog 110 [.v (.int .i64 a), .v (.int .i64 b), .vp [.fn 107 [] [.vp (b8 q), .vp [aS names]]]] (.v (.int .i64 (dc q.au names a - dc q.au names b))):=by
 have C1:=vR q names a hp ha;have C2:=vR q names b hp hb;have r1:=wZ q.au names a;have r2:=wZ q.au names b;obtain ⟨ps,cs,rs,ra,sl⟩:=q;simp only [b8,aS] at *;have w1:IntKind.i64.wrap (dc ps names a - dc ps names b)=dc ps names a - dc ps names b:=fE (by omega) (by omega)
 (refine ah.enter Tryz.func110 rfl (by kernel_rfl) (by kernel_rfl) rfl (by first|rfl|(simp only [go_sem,SE,R0,R3])) (by first|rfl|(simp only [go_sem,SE,R0,R3])) ?_;simp only [Tryz.ntmps110,Tryz.results110,QI,QC,Nat.reduceAdd,Nat.reduceSub,SG,SH,SB,SA])
 repeat (first|(with_reducible first|refine af.up ?_|refine fun (K:AK) hK=> ?_|refine wD ?_|(refine hK _ ?_;clear hK K))|simp only [go_sem]|clear hK K)
 refine bc.one C1 ?_
 repeat (first|(with_reducible first|refine af.up ?_|refine fun (K:AK) hK=> ?_|refine wD ?_|(refine hK _ ?_;clear hK K))|simp only [go_sem]|clear hK K)
 refine bc.one C2 ?_
 repeat (first|(with_reducible first|refine af.up ?_|refine fun (K:AK) hK=> ?_|refine wD ?_|(refine hK _ ?_;clear hK K))|simp only [go_sem,w1]|clear hK K)
theorem bF (b:Nat) (l:List Nat):dz b (az l)=true:=bA _ (fun _=>rfl) _
theorem sn (r:Nat->Int): ∀(l:List Nat) (m k:Nat),fx r (l++[k]) m=if r k - r (fx r l m) > 0 then k else fx r l m
 | [],m,k=>rfl
 | a :: l,m,k=>by rw [SB,fx,sn r l,fx]
theorem B7 {gf:FuncId} {caps:List AV} (r:Nat->Int) (l:List Nat) (hl:l.length<=1000000) (hne:l≠[]) (hc: ∀a b,a∈l->b∈l->ah Tryz.prog gf (.v (.int .i64 a) :: .v (.int .i64 b) :: caps) (.v (.int .i64 (r a - r b)))) (hw:bw 0 caps=true) :
  ah Tryz.prog 109 [.aE 1 (az l) l.length, .fn gf [] caps] (.v (.int .i64 (fx r (l.drop 1) (l.getD 0 0):Nat))):=by
 (refine ah.enter Tryz.func109 rfl (by kernel_rfl) (by kernel_rfl) rfl (by simp only [go_sem,bw,AV.wf,SE,R0,R3,hw,bF]) (by simp only [go_sem,bw,AV.wf,aD,SE,R0,R3,hw,bF]) ?_;simp only [Tryz.ntmps109,Tryz.results109,QI,QC,Nat.reduceAdd,Nat.reduceSub,SG,SH,SB,SA])
 have hpos:0<l.length:=by cases l<;>simp_all
 have d0:decide ((l.length:Int)<1)=false:=decide_eq_false (by omega)
 have eG0:(az l).getD 0 []=[.v (.int .i64 (l[0]:Nat))]:=by rw [az,getD_map _ l 0 [] hpos]
 have e0:l.getD 0 0=l[0]:=by simp [List.getD,hpos]
 have hmem: ∀j,fx r ((l.drop 1).take j) l[0]∈l:=fun j=>by
  rcases (gN r ((l.drop 1).take j) l[0]).1 with e|e
  ·rw [e];exact List.getElem_mem hpos
  ·exact List.mem_of_mem_drop (List.mem_of_mem_take e)
 rw [e0]
 repeat (first|(with_reducible first|refine af.up ?_|refine fun (K:AK) hK=> ?_|(refine hK _ ?_;clear hK K))|simp only [go_sem,d0,eG0]|with_reducible refine wA ?_|clear hK K)
 refine dq (ι:=Nat) 14 (fun j=>[(5, .v (.int .i64 (fx r ((l.drop 1).take j) l[0]:Nat))),(6, .v (.int .i64 ((j+1:Nat):Int)))]) (fun j=>l.length - (j+1)) (fun j=>j+1<=l.length) 0 (by omega) ?_ ?_
 ·(refine aj ?_ ?_ ?_<;>simp only [aT,R8,Sb,SG,SH,bj,bg,AV.v.injEq,Value.int.injEq,Value.bool.injEq,Value.string.injEq,AV.vec.injEq,AV.ptr.injEq,true_or,or_true,false_or,or_false,aa.mk.injEq,forall_eq_apply_imp_iff,forall_eq,forall_eq',go_sem])
  exact ⟨hw,rfl,rfl⟩
 rintro j hj K hK
 repeat (first|(with_reducible first|refine af.up ?_|refine fun (K:AK) hK=> ?_|(refine hK _ ?_;clear hK K))|simp only [go_sem]|with_reducible refine wA ?_|clear hK K)
 refine cQ.part (fun h=> ?_) (fun h=> ?_)
 ·have hlt:j+1<l.length:=by (try simp only [bne_iff_ne,ne_eq,bne_eq_false_iff_eq,beq_iff_eq,beq_eq_false_iff_ne,decide_eq_true_eq,decide_eq_false_iff_not,SI,Int.natCast_inj,SK,Int.ofNat_le] at h);omega
  have eW:=aM (k:=j+1) (by omega)
  have eG:(az l).getD (j+1) []=[.v (.int .i64 (l[j+1]:Nat))]:=by rw [az,getD_map _ l (j+1) [] hlt]
  have C:=hc l[j+1] (fx r ((l.drop 1).take j) l[0]) (List.getElem_mem hlt) (hmem j)
  have eS:fx r ((l.drop 1).take (j+1)) l[0]=if r l[j+1] - r (fx r ((l.drop 1).take j) l[0]) > 0 then l[j+1] else fx r ((l.drop 1).take j) l[0]:=by
   rw [List.take_succ_eq_append_getElem (by simp;omega),sn];simp [Nat.add_comm]
  generalize fx r ((l.drop 1).take j) l[0]=m at C eS
  repeat (first|(with_reducible first|refine af.up ?_|refine fun (K:AK) hK=> ?_|(refine hK _ ?_;clear hK K))|simp only [go_sem,h,eG]|with_reducible refine wA ?_|clear hK K)
  refine ae.one C ?_
  by_cases hg:r l[j+1] - r m > 0
  ·rw [if_pos hg] at eS;have hg':decide (0<r l[j+1] - r m)=true:=decide_eq_true hg
   repeat (first|(with_reducible first|refine af.up ?_|refine fun (K:AK) hK=> ?_|(refine hK _ ?_;clear hK K))|simp only [go_sem,hg',eG,eW]|with_reducible refine wA ?_|clear hK K)
   exact aQ.mk (j+1) (by omega) (by omega) (by
    simp only [eS]
    (refine aj ?_ ?_ ?_<;>simp only [aT,R8,Sb,SG,SH,bj,bg,AV.v.injEq,Value.int.injEq,Value.bool.injEq,Value.string.injEq,AV.vec.injEq,AV.ptr.injEq,true_or,or_true,false_or,or_false,aa.mk.injEq,forall_eq_apply_imp_iff,forall_eq,forall_eq',go_sem])
    exact hw)
  ·rw [if_neg hg] at eS;have hg':decide (0<r l[j+1] - r m)=false:=decide_eq_false (by omega)
   repeat (first|(with_reducible first|refine af.up ?_|refine fun (K:AK) hK=> ?_|(refine hK _ ?_;clear hK K))|simp only [go_sem,hg',eW]|with_reducible refine wA ?_|clear hK K)
   exact aQ.mk (j+1) (by omega) (by omega) (by
    simp only [eS]
    (refine aj ?_ ?_ ?_<;>simp only [aT,R8,Sb,SG,SH,bj,bg,AV.v.injEq,Value.int.injEq,Value.bool.injEq,Value.string.injEq,AV.vec.injEq,AV.ptr.injEq,true_or,or_true,false_or,or_false,aa.mk.injEq,forall_eq_apply_imp_iff,forall_eq,forall_eq',go_sem])
    exact hw)
 ·have hje:j+1=l.length:=by (try simp only [bne_iff_ne,ne_eq,bne_eq_false_iff_eq,beq_iff_eq,beq_eq_false_iff_ne,decide_eq_true_eq,decide_eq_false_iff_not,SI,Int.natCast_inj,SK,Int.ofNat_le] at h);omega
  have e1:(l.drop 1).take j=l.drop 1:=SX (by simp;omega)
  repeat (first|(with_reducible first|refine af.up ?_|refine fun (K:AK) hK=> ?_|(refine hK _ ?_;clear hK K))|simp only [go_sem,e1]|with_reducible refine wA ?_|clear hK K)
theorem GK (q:fF) (names:List ByteArray) (l:List Nat) (hp:q.au.length<=1000000) (hl:l.length<=1000000) (hne:l≠[]) (hk: ∀k,k∈l->k<q.au.length) :
  ah Tryz.prog 67 [.agg (b8 q),aS names, .aE 1 (az l) l.length] (.v (.int .i64 (fx (dc q.au names) (l.drop 1) (l.getD 0 0):Nat))):=by
 have C:=B7 (gf:=110) (caps:=[.vp [.fn 107 [] [.vp (b8 q), .vp [aS names]]]]) (dc q.au names) l hl hne (fun a b ha hb=>Ee q names a b hp (hk a ha) (hk b hb)) (by obtain ⟨ps,cs,rs,ra,sl⟩:=q;simp only [b8,aS,go_sem,bw,AV.wf,aD,SE,R0,R3]);obtain ⟨ps,cs,rs,ra,sl⟩:=q;simp only [b8,aS] at *
 (refine ah.enter Tryz.func67 rfl (by kernel_rfl) (by kernel_rfl) rfl (by simp only [go_sem,bw,AV.wf,SE,R0,R3,bF]) (by simp only [go_sem,bw,AV.wf,aD,SE,R0,R3,bF]) ?_;simp only [Tryz.ntmps67,Tryz.results67,QI,QC,Nat.reduceAdd,Nat.reduceSub,SG,SH,SB,SA])
 repeat (first|(with_reducible first|refine af.up ?_|refine fun (K:AK) hK=> ?_|(refine hK _ ?_;clear hK K))|simp only [go_sem]|clear hK K)
 refine ae.xL C 60 rfl (by simp only [go_sem,Nat.reduceLT,Nat.reduceLeDiff,Nat.reduceEqDiff,Nat.lt_add_one,Nat.zero_lt_one,and_self,bF]) rfl ?_
 repeat (first|(with_reducible first|refine af.up ?_|refine fun (K:AK) hK=> ?_|(refine hK _ ?_;clear hK K))|simp only [go_sem]|clear hK K)
theorem xy (xs:List Nat) (hl:xs.length<=1000000):gU Tryz.prog 73 [.vp [.aE 1 (az xs) xs.length]] [] (az xs):=by
 have e0:az xs=az (xs.drop 0):=by rw [List.drop_zero]
 have L:(az xs).length=xs.length:=by simp [az]
 rw [show gU Tryz.prog 73 [.vp [.aE 1 (az xs) xs.length]] [] (az xs)↔gU Tryz.prog 73 [.vp [.aE 1 (az xs) xs.length]] [] (az (xs.drop 0)) from by rw [List.drop_zero]]
 (refine gU.enter Tryz.func73 rfl (by kernel_rfl) (by kernel_rfl) rfl (fun l=> ?_);simp only [Tryz.ntmps73,Tryz.results73,QI,QC,Nat.reduceAdd,Nat.reduceSub,SG,SH,SB,SA])
 repeat (first|(with_reducible first|refine af.up ?_|refine fun (K:AK) hK=> ?_|(refine hK _ ?_;clear hK K))|simp only [go_sem]|with_reducible refine wA ?_|clear hK K)
 refine fJ (ι:=Nat) 8 (fun i=>[(7, .v (.int .i64 i)),(4, .undef)]) (fun i=>[]) (fun i=> .run l (az (xs.drop i))) (fun i=>xs.length - i) (fun i=>i<=xs.length) 0 (by omega) ?_ ?_
 ·(refine aj ?_ ?_ ?_<;>simp only [aT,R8,Sb,SG,SH,bj,bg,AV.v.injEq,Value.int.injEq,Value.bool.injEq,Value.string.injEq,AV.vec.injEq,AV.ptr.injEq,true_or,or_true,false_or,or_false,aa.mk.injEq,forall_eq_apply_imp_iff,forall_eq,forall_eq',go_sem])
  exact rfl
 ·rintro i hi K hK
  repeat (first|(with_reducible first|refine af.up ?_|refine fun (K:AK) hK=> ?_|(refine hK _ ?_;clear hK K))|simp only [go_sem]|with_reducible refine wA ?_|clear hK K)
  refine cQ.part (fun h=> ?_) (fun h=> ?_)
  ·have hlt:i<xs.length:=by (try simp only [decide_eq_true_eq,decide_eq_false_iff_not,SK] at h);omega
   have eW:=aM (k:=i) (by omega)
   have eG:(az xs).getD i []=[.v (.int .i64 (xs[i]:Nat))]:=by rw [az,getD_map _ xs i [] hlt]
   have eY:az (xs.drop i)=[.v (.int .i64 (xs[i]:Nat))] :: az (xs.drop (i+1)):=by rw [az,List.drop_eq_getElem_cons hlt];rfl
   repeat' (first|(with_reducible first|refine af.up ?_|refine fun (K:AK) hK=> ?_|(refine hK _ ?_;clear hK K))|simp only [go_sem,eG,eW,eY,Go.undef]|with_reducible refine wA ?_|clear hK K|(with_reducible refine ae.one (by assumption) ?_)|(with_reducible refine bc.one (by assumption) ?_)|(refine cQ.part (fun hb=> ?_) (fun hb=> ?_)<;>simp only [hb,go_sem,eG,eW,eY,Go.undef])|(refine cQ.part (fun hb=> ?_) (fun hb=> ?_))|(with_reducible refine dZ.mk ?_ ?_))
   ·exact aQ.mk (i+1) (by omega) (by omega) (by (refine aj ?_ ?_ ?_<;>simp only [aT,R8,Sb,SG,SH,bj,bg,AV.v.injEq,Value.int.injEq,Value.bool.injEq,Value.string.injEq,AV.vec.injEq,AV.ptr.injEq,true_or,or_true,false_or,or_false,aa.mk.injEq,forall_eq_apply_imp_iff,forall_eq,forall_eq',go_sem]))
   ·exact .inr trivial
  ·have e1:az (xs.drop i)=[]:=by rw [List.drop_eq_nil_of_le (by (try simp only [decide_eq_true_eq,decide_eq_false_iff_not,SK] at h);omega)];rfl
   simp only [e1]
   repeat (first|(with_reducible first|refine af.up ?_|refine fun (K:AK) hK=> ?_|(refine hK _ ?_;clear hK K))|simp only [go_sem]|with_reducible refine wA ?_|clear hK K)
   exact .inl trivial
theorem xx (v:Value) (hv: ∃a n c,v = .slice a n c) (w:World):Calls Tryz.prog 34 #[v] w (fun e w'=>e = .returned (.func (.func 73) #[] #[.pointer (some ⟨w.heap.size,0,none⟩)])∧w'=w.alloc (.cells #[v] 75)):=by
 obtain ⟨a,n,c,rfl⟩:=hv
 go_enter Tryz.func34,Tryz.ntmps34
 go_wp2
 go_ret
 exact ⟨rfl,rfl⟩
theorem CH {o:List (Option aa)} {id:Nat} {ob:aa} (ho:o[id]? = some (some ob)) (hv:ob.fj=true):oT Tryz.prog 34 [.vec id ob.rows.length] o (.fn 73 [] [.vp [.vec id ob.rows.length]]):=by
 refine ⟨by kernel_rfl,fun D nu w vargs hro hra=> ?_⟩;obtain ⟨x,rfl,hx⟩:=dI hra
 obtain ⟨h1,rfl⟩:ct o id ob.rows.length∧x=nu id ob.rows.length:=by
  cases hx with
  | vec _ _ h1 _=>exact ⟨h1,rfl⟩
 have hs: ∃a n c,nu id ob.rows.length = .slice a n c:=by
  rcases hro.obj id ob ho with ⟨_,e2,e3⟩|⟨g,cur,hb⟩|⟨g,es,cl,hm⟩
  ·exact ⟨none,0,0,by rw [e2];exact e3⟩
  ·obtain ⟨cap,k1,_⟩:=hb.vec hv;exact ⟨_,_,_,k1⟩
  ·have:=hm.fj;rw [hv] at this;cases this
 refine (xx _ hs w).mono ?_;rintro e w' ⟨rfl,rfl⟩;have hb:Below w.heap.size w (w.alloc (.cells #[nu id ob.rows.length] 75)):=dV _ _
 have hone:(nu id ob.rows.length).oneCell'=true:=by obtain ⟨a,n,c,e⟩:=hs;rw [e];rfl
 refine ⟨_,rfl,hb, .fn _ _ _ _ _ rfl rfl (fun i c x k1 _=>by simp at k1) (fun i c x k1 k2=> ?_)⟩
 match i,k1,k2 with
 | 0,k1,k2=>
  cases k1;cases k2
  refine .vp _ _ _ (fun _=>nu id ob.rows.length) ⟨by simp,fun ho=> ?_,hro.up _ (Nat.le_refl _)⟩ (fun j c hc=> ?_) (fun j c hc=> ?_) (fun _ _ _=>hone)
  ·have:=hro.aW ho;omega
  ·have hj:j=0:=by have:=(QD.1 hc).1;simp at this;omega
   subst hj;simp
  ·have hj:j=0:=by have:=(QD.1 hc).1;simp at this;omega
   subst hj;cases hc;exact .vec _ _ h1 hone
 | i+1,k1,k2=>simp at k1
def D8:Go.Shelf.Ren:=⟨fun|6=>111|10=>68|n=>n,fun|0=>0|3=>3|4=>4|22=>75|23=>3|25=>116|n=>n,fun n=>n⟩
theorem GB:SlLaysH.n10 Tryz.prog D8:={
 mixed:=by kernel_rfl
 f6:=⟨Tryz.f111.name,by decide,Tryz.func111⟩
 f10:=⟨Tryz.f68.name,by decide,Tryz.func68⟩
 t0:=by kernel_rfl
 a0:=fun w=>by kernel_rfl
 z0:=fun w=>by kernel_rfl
 v0:=fun w=>by kernel_rfl
 t3:=by kernel_rfl
 a3:=fun w=>by kernel_rfl
 z3:=fun w=>by kernel_rfl
 v3:=fun w=>by kernel_rfl
 t4:=by kernel_rfl
 a4:=fun w=>by kernel_rfl
 z4:=fun w=>by kernel_rfl
 v4:=fun w=>by kernel_rfl
 t22:=by kernel_rfl
 a22:=fun w=>by kernel_rfl
 z22:=fun w=>by kernel_rfl
 v22:=fun w=>by kernel_rfl
 a23:=fun w=>by kernel_rfl
 z23:=fun w=>by kernel_rfl
 t25:=by kernel_rfl
 a25:=fun w=>by kernel_rfl
 z25:=fun w=>by kernel_rfl
 v25:=fun w=>by kernel_rfl }
theorem rS (l:List Nat):az l=b6 (Value.int .i64) (iE l):=by simp [az,b6,iE]
theorem Af (n k:Int) (b:Nat) (w:World) (hc:w.cell? ⟨b,0,none⟩=some (.int .i64 k)):FnGives Tryz.prog 69 #[.pointer (some ⟨b,0,none⟩)] #[.int .i64 n] (.bool (n==k)) w:=by
 show Calls Tryz.prog 69 #[.int .i64 n, .pointer (some ⟨b,0,none⟩)] w _
 go_enter Tryz.func69,Tryz.ntmps69
 go_wp2
 all_goals (go_ret;exact ⟨by simp_all,0,rfl⟩)
open Go.Sort in
theorem BB (l:List Nat) (k:Nat) (hl:l.length<=1000000) (hne:l≠[]) :
  bG Tryz.prog 68 [.vec 0 l.length, .fn 69 [] [.ptr 1 0 1 0 0]] [some ⟨3,1,true,az l⟩,some ⟨3,1,false,[[.v (.int .i64 k)]]⟩] (.vec 2 (l.filter (fun j=>j !=k)).length)
   [none,some ⟨3,1,false,[[.v (.int .i64 k)]]⟩,some ⟨3,1,true,az (l.filter (fun j=>j !=k))⟩]:=by
 have hf:(iE l).filter (fun x=> !(x==(k:Int)))=iE (l.filter (fun j=>j !=k)):=by
  rw [iE,iE,List.filter_map]
  congr 1
  refine List.filter_congr (fun x _=> ?_);simp only [Function.comp,bne]
  congr 1
  rw [Bool.eq_iff_iff,beq_iff_eq,beq_iff_eq];omega
 have hlen:(iE (l.filter (fun j=>j !=k))).length=(l.filter (fun j=>j !=k)).length:=by simp [iE]
 have hle:(l.filter (fun j=>j !=k)).length<=l.length:=List.length_filter_le _ _
 have hl1:(iE l).length=l.length:=by simp [iE]
 have key:=bG.row (P:=Tryz.prog) (enc:=Value.int .i64) (fun _=>rfl) (f:=68) (args:=[.fn 69 [] [.ptr 1 0 1 0 0]]) (T:=3) (d:=iE l) (o1:=[some ⟨3,1,false,[[.v (.int .i64 k)]]⟩])
  (d':=iE (l.filter (fun j=>j !=k))++List.replicate (l.length - (l.filter (fun j=>j !=k)).length) 0) (k:=(l.filter (fun j=>j !=k)).length) (by rw [List.length_append,List.length_replicate,hlen,hl1];omega) (by omega) (by kernel_rfl) ?_ ?_
 ·rw [List.take_append_of_le_length (by omega),SX (by omega)] at key;rw [hl1, <- rS, <- rS] at key;exact key
 ·intro D nu w vargs cap blk hro hra hH hblk hnu hcap hmx;obtain ⟨x,rfl,hx⟩:=dI hra
  obtain ⟨b,hb0,rfl⟩: ∃b,dm (nu 1 0)=some b∧x = .func (.func 69) #[] #[.pointer (some ⟨b,0,none⟩)]:=by
   cases hx with
   | fn _ _ _ fi ca h1 h2 h3 h4=>
    have e1:fi = #[]:=Array.eq_empty_of_size_eq_zero (by simpa using h1.symm);subst e1
    obtain ⟨y,rfl⟩: ∃y,ca = #[y]:=by
     obtain ⟨cl⟩:=ca
     match cl,h2 with
     | [y],_=>exact ⟨y,rfl⟩
    have h5:=h4 0 _ y rfl rfl
    cases h5 with
    | ptr _ _ _ _ _ b k1 k2=>exact ⟨b,k2,by simp⟩
  obtain ⟨g,cur,hg⟩: ∃g cur,rF D nu [some ⟨3,1,true,b6 (Value.int .i64) (iE l)⟩,some ⟨3,1,false,[[.v (.int .i64 k)]]⟩] w 1 ⟨3,1,false,[[.v (.int .i64 k)]]⟩ g cur:=by
   rcases hro.obj 1 _ rfl with ⟨e1,_⟩|h|⟨g,es,cl,hm⟩
   ·cases e1
   ·exact h
   ·have:=hm.z;cases this
  obtain rfl:g=b:=by have:=hg.kC;rw [show nu 1 (aa.hl ⟨3,1,false,[[.v (.int .i64 k)]]⟩)=nu 1 0 from rfl,hb0] at this;cases this;rfl
  have hlt:g<w.heap.size:=(Array.getElem?_eq_some_iff.1 hg.blk).1
  have hne':g≠blk:=fun e=>hro.sep 1 0 _ _ g rfl rfl (by decide) hg.bC (by
   show cN (nu 0 (b6 (Value.int .i64) (iE l)).length)=some g
   rw [show (b6 (Value.int .i64) (iE l)).length=(iE l).length by simp [b6],hnu,e];rfl)
  have hcell:w.cell? ⟨g,0,none⟩=some (.int .i64 (k:Int)):=by
   have h1:=hg.l9 (i:=0) (j:=0) (row:=[.v (.int .i64 k)]) rfl Nat.zero_lt_one;have h3:=(hg.cell 0 0 _ _ _ rfl rfl (Array.getElem?_eq_getElem h1)).cf;simp only [Nat.zero_mul,Nat.add_zero] at h1 h3;simp [World.cell?,hg.blk,h1,h3]
  have hD:=AnyE.slices_DeleteFunc (P:=Tryz.prog) (ρ:=D8) GB (Value.int .i64) (fun _=>rfl) (fun x=>x==(k:Int)) 69 #[.pointer (some ⟨g,0,none⟩)] (enters_of Tryz.func69 (by kernel_rfl) rfl) 0 (fun w=>by kernel_rfl) blk 0 cap (iE l).toArray w
   (fun W x hb=>Af x k g W ((hb.cell (p:=⟨g,0,none⟩) hlt).trans hcell))
   (fun n os dk x _=>Af x k g _ (by
    unfold sortWorld;rw [cell?_grow _ _ _ (by show g<(putRow _ _ _ _ _).heap.size;rw [size_putRow];exact hlt),cell?_putRow_other _ _ blk 0 _ _ (Or.inl hne')]
    exact hcell))
   hH (by simp [iE];omega) (by simpa using hcap)
  simp only [List.toList_toArray,hf,List.size_toArray,hl1,hlen] at hD
  change Calls Tryz.prog 68 _ _ _ at hD
  rw [hl1];refine hD.mono ?_;rintro e w' ⟨rfl,q,rfl⟩;exact ⟨rfl,q, #[],by rw [grow_empty]⟩
 ·intro h;exact absurd (by simpa [iE] using h) hne
end
end Go.Proofs.YtjcobjgjjlahdaaGreatDoor
