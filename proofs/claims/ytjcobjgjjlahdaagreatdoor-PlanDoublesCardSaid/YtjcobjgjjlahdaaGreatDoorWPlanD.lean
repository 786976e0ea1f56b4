/- texts of one claim, one behind the other. -/
import Derived.Test.YtjcobjgjjlahdaaGreatDoorWDfaA
import Derived.Test.YtjcobjgjjlahdaaGreatDoorWDfaH
import Derived.Test.YtjcobjgjjlahdaaGreatDoorWChk3
import Derived.Test.YtjcobjgjjlahdaaGreatDoorWOrdB
import Derived.Test.YtjcobjgjjlahdaaGreatDoorWDfaC
set_option linter.unusedSimpArgs false
set_option linter.unusedVariables false
set_option maxRecDepth 100000
set_option maxHeartbeats 16000000
open Bool renaming and_self -> SE, and_true -> R0, true_and -> R3, or_eq_false_iff -> Tv, false_eq_true -> Sr, not_false -> TA, not_true -> TB
open List renaming length_cons -> QI, length_nil -> QC, replicate_succ -> SG, replicate_zero -> SH, cons_append -> SB, nil_append -> SA, foldl_nil -> Sb, foldl_cons -> R8, length_take -> Q4, take_length -> SM, getElem_mem -> Su, take_succ_cons -> S4, take_zero -> S0, map_cons -> Tc, map_nil -> Ti, getElem?_cons_zero -> RU, getElem?_cons_succ -> SC, length_drop -> Tw, filter_nil -> Tx, length_filter_le -> Ty, map_drop -> Tz, length_map -> Rv
open Option renaming map_some -> Rb
open Nat renaming zero_lt_succ -> Tp, zero_le -> QJ, le_trans -> Qz
namespace Go.Proofs.YtjcobjgjjlahdaaGreatDoor
open Go.RowKit
theorem qg (names to:List ByteArray) {k:Nat} (h:k<names.length):(names.take (k+1)).foldl aq to=aq ((names.take k).foldl aq to) names[k]:=by
 rw [List.take_succ_eq_append_getElem h,List.foldl_append];rfl
theorem qO (to names:List ByteArray) (h1:to.length<=1000000) (h2:names.length<=1000000):bG Tryz.prog 58 [.vec 0 to.length, .vec 1 names.length] [some ⟨9,1,true,to.map encS⟩,some ⟨9,1,true,names.map encS⟩] (.vec 0 (names.foldl aq to).length) [some ⟨9,1,true,(names.foldl aq to).map encS⟩,some ⟨9,1,true,names.map encS⟩]:=by
 have eLn:(names.map encS).length=names.length:=by simp
 (refine bG.enter Tryz.func58 rfl (by kernel_rfl) (by kernel_rfl) rfl ?_;simp only [Tryz.ntmps58,Tryz.results58,QI,QC,Nat.reduceAdd,Nat.reduceSub,SG,SH,SB,SA])
 repeat (first|(with_reducible first|refine af.up ?_|refine fun (K:AK) hK=> ?_|(refine hK _ ?_;clear hK K))|simp only [go_sem]|with_reducible refine wA ?_|clear hK K)
 refine cM (ι:=Nat) 10 (fun k=>[(0, .vec 0 ((names.take k).foldl aq to).length),(6, .undef),(9, .v (.int .i64 k))]) (fun k=>[some ⟨9,1,true,((names.take k).foldl aq to).map encS⟩,some ⟨9,1,true,names.map encS⟩]) (fun k=>names.length - k) (fun k=>k<=names.length) 0 (Nat.zero_le _) ?_ ?_
 ·simp only [List.take_zero,Sb]
  (refine aj ?_ ?_ ?_<;>simp only [aT,R8,Sb,SG,SH,bj,bg,AV.v.injEq,Value.int.injEq,Value.bool.injEq,Value.string.injEq,AV.vec.injEq,AV.ptr.injEq,true_or,or_true,false_or,or_false,aa.mk.injEq,forall_eq_apply_imp_iff,forall_eq,forall_eq',go_sem])
  all_goals first|rfl|trace_state
 ·intro k hk K hK;have hlen:=fe (names.take k) to;have eW:=aM (k:=k) (by omega)
  by_cases hlt:k<names.length
  ·have e1:decide ((k:Int)<(names.length:Int))=true:=decide_eq_true (by omega);have eG:=getD_map encS names k [] hlt;have eS:=qg names to hlt;have C:=dP ((names.take k).foldl aq to) names[k];rw [aq] at eS;simp only [encS] at eG;simp only [aS] at C;rw [Q4] at hlen;generalize (names.take k).foldl aq to=cur at *
   have eLc:(cur.map encS).length=cur.length:=by simp
   repeat (first|(with_reducible first|refine af.up ?_|refine fun (K:AK) hK=> ?_|(refine hK _ ?_;clear hK K))|simp only [go_sem,e1,eG]|with_reducible refine wA ?_|clear hK K)
   refine ae.xL C 8 rfl (by simp only [go_sem,Nat.reduceLT,Nat.reduceLeDiff,Nat.reduceEqDiff,Nat.lt_add_one,Nat.zero_lt_one,and_self,aD]) rfl ?_
   cases hb:hasB cur names[k]
   ·rw [hb] at eS;simp only [Bool.false_eq_true,if_false] at eS
    have eA:cur.map encS++[[AV.v (.string names[k])]]=((names.take (k+1)).foldl aq to).map encS:=by rw [eS,List.map_append];rfl
    have eB:cur.length+1=((names.take (k+1)).foldl aq to).length:=by rw [eS];simp
    repeat (first|(with_reducible first|refine af.up ?_|refine fun (K:AK) hK=> ?_|(refine hK _ ?_;clear hK K))|simp only [go_sem,hb]|with_reducible refine wA ?_|clear hK K)
    repeat (first|(with_reducible first|refine af.up ?_|refine fun (K:AK) hK=> ?_|(refine hK _ ?_;clear hK K))|simp only [go_sem,eW]|with_reducible refine wA ?_|clear hK K)
    refine aQ.mk (k+1) hlt (by omega) ?_;simp only [eA,eB]
    (refine aj ?_ ?_ ?_<;>simp only [aT,R8,Sb,SG,SH,bj,bg,AV.v.injEq,Value.int.injEq,Value.bool.injEq,Value.string.injEq,AV.vec.injEq,AV.ptr.injEq,true_or,or_true,false_or,or_false,aa.mk.injEq,forall_eq_apply_imp_iff,forall_eq,forall_eq',go_sem])
    all_goals first|rfl|trace_state
   ·rw [hb] at eS;simp only [if_true] at eS
    repeat (first|(with_reducible first|refine af.up ?_|refine fun (K:AK) hK=> ?_|(refine hK _ ?_;clear hK K))|simp only [go_sem,hb]|with_reducible refine wA ?_|clear hK K)
    repeat (first|(with_reducible first|refine af.up ?_|refine fun (K:AK) hK=> ?_|(refine hK _ ?_;clear hK K))|simp only [go_sem,eW]|with_reducible refine wA ?_|clear hK K)
    refine aQ.mk (k+1) hlt (by omega) ?_;simp only [eS]
    (refine aj ?_ ?_ ?_<;>simp only [aT,R8,Sb,SG,SH,bj,bg,AV.v.injEq,Value.int.injEq,Value.bool.injEq,Value.string.injEq,AV.vec.injEq,AV.ptr.injEq,true_or,or_true,false_or,or_false,aa.mk.injEq,forall_eq_apply_imp_iff,forall_eq,forall_eq',go_sem])
    all_goals first|rfl|trace_state
  ·have hkn:k=names.length:=by omega
   have e1:decide ((k:Int)<(names.length:Int))=false:=decide_eq_false (by omega);rw [hkn] at e1;rw [hkn,SM]
   repeat (first|(with_reducible first|refine af.up ?_|refine fun (K:AK) hK=> ?_|(refine hK _ ?_;clear hK K))|simp only [go_sem,e1]|with_reducible refine wA ?_|clear hK K)
   (refine ⟨?_, ?_, ?_⟩<;>simp only [bj,bg,AV.v.injEq,Value.int.injEq,Value.bool.injEq,Value.string.injEq,AV.vec.injEq,AV.ptr.injEq,true_or,or_true,false_or,or_false,aa.mk.injEq,forall_eq_apply_imp_iff,forall_eq,forall_eq',go_sem])
   all_goals first|rfl|trace_state
theorem nG (names:List ByteArray) (h2:names.length<=1000000):bG Tryz.prog 58 [.v (.slice none 0 0), .vec 0 names.length] [some ⟨9,1,true,names.map encS⟩] (.vec 1 (names.foldl aq []).length) [some ⟨9,1,true,names.map encS⟩,some ⟨9,1,true,(names.foldl aq []).map encS⟩]:=by
 have eLn:(names.map encS).length=names.length:=by simp
 (refine bG.enter Tryz.func58 rfl (by kernel_rfl) (by kernel_rfl) rfl ?_;simp only [Tryz.ntmps58,Tryz.results58,QI,QC,Nat.reduceAdd,Nat.reduceSub,SG,SH,SB,SA])
 repeat (first|(with_reducible first|refine af.up ?_|refine fun (K:AK) hK=> ?_|(refine hK _ ?_;clear hK K))|simp only [go_sem]|with_reducible refine wA ?_|clear hK K)
 refine dD (ι:=Nat) 0 9 1 rfl (by decide) 10 (fun k=>[(0, .vec 1 ((names.take k).foldl aq []).length),(6, .undef),(9, .v (.int .i64 k))]) (fun k=>[some ⟨9,1,true,names.map encS⟩,some ⟨9,1,true,((names.take k).foldl aq []).map encS⟩]) (fun k=>names.length - k) (fun k=>k<=names.length) 0 (Nat.zero_le _) ?_ ?_
 ·simp only [List.take_zero,Sb]
  (refine aj ?_ ?_ ?_<;>simp only [aT,R8,Sb,SG,SH,bj,bg,AV.v.injEq,Value.int.injEq,Value.bool.injEq,Value.string.injEq,AV.vec.injEq,AV.ptr.injEq,true_or,or_true,false_or,or_false,aa.mk.injEq,forall_eq_apply_imp_iff,forall_eq,forall_eq',go_sem])
  all_goals first|rfl|trace_state
 ·intro k hk K hK;have hlen:=fe (names.take k) [];have eW:=aM (k:=k) (by omega)
  by_cases hlt:k<names.length
  ·have e1:decide ((k:Int)<(names.length:Int))=true:=decide_eq_true (by omega);have eG:=getD_map encS names k [] hlt;have eS:=qg names [] hlt;have C:=dP ((names.take k).foldl aq []) names[k];rw [aq] at eS;simp only [encS] at eG;simp only [aS] at C;rw [Q4] at hlen;simp only [QC,Nat.zero_add] at hlen;generalize (names.take k).foldl aq []=cur at *
   have eLc:(cur.map encS).length=cur.length:=by simp
   repeat (first|(with_reducible first|refine af.up ?_|refine fun (K:AK) hK=> ?_|(refine hK _ ?_;clear hK K))|simp only [go_sem,e1,eG]|with_reducible refine wA ?_|clear hK K)
   refine ae.xL C 8 rfl (by simp only [go_sem,Nat.reduceLT,Nat.reduceLeDiff,Nat.reduceEqDiff,Nat.lt_add_one,Nat.zero_lt_one,and_self,aD]) rfl ?_
   cases hb:hasB cur names[k]
   ·rw [hb] at eS;simp only [Bool.false_eq_true,if_false] at eS
    have eA:cur.map encS++[[AV.v (.string names[k])]]=((names.take (k+1)).foldl aq []).map encS:=by rw [eS,List.map_append];rfl
    have eB:cur.length+1=((names.take (k+1)).foldl aq []).length:=by rw [eS];simp
    repeat (first|(with_reducible first|refine af.up ?_|refine fun (K:AK) hK=> ?_|(refine hK _ ?_;clear hK K))|simp only [go_sem,hb]|with_reducible refine wA ?_|clear hK K)
    repeat (first|(with_reducible first|refine af.up ?_|refine fun (K:AK) hK=> ?_|(refine hK _ ?_;clear hK K))|simp only [go_sem,eW]|with_reducible refine wA ?_|clear hK K)
    refine aQ.mk (k+1) hlt (by omega) ?_;simp only [eA,eB]
    (refine aj ?_ ?_ ?_<;>simp only [aT,R8,Sb,SG,SH,bj,bg,AV.v.injEq,Value.int.injEq,Value.bool.injEq,Value.string.injEq,AV.vec.injEq,AV.ptr.injEq,true_or,or_true,false_or,or_false,aa.mk.injEq,forall_eq_apply_imp_iff,forall_eq,forall_eq',go_sem])
    all_goals first|rfl|trace_state
   ·rw [hb] at eS;simp only [if_true] at eS
    repeat (first|(with_reducible first|refine af.up ?_|refine fun (K:AK) hK=> ?_|(refine hK _ ?_;clear hK K))|simp only [go_sem,hb]|with_reducible refine wA ?_|clear hK K)
    repeat (first|(with_reducible first|refine af.up ?_|refine fun (K:AK) hK=> ?_|(refine hK _ ?_;clear hK K))|simp only [go_sem,eW]|with_reducible refine wA ?_|clear hK K)
    refine aQ.mk (k+1) hlt (by omega) ?_;simp only [eS]
    (refine aj ?_ ?_ ?_<;>simp only [aT,R8,Sb,SG,SH,bj,bg,AV.v.injEq,Value.int.injEq,Value.bool.injEq,Value.string.injEq,AV.vec.injEq,AV.ptr.injEq,true_or,or_true,false_or,or_false,aa.mk.injEq,forall_eq_apply_imp_iff,forall_eq,forall_eq',go_sem])
    all_goals first|rfl|trace_state
  ·have hkn:k=names.length:=by omega
   have e1:decide ((k:Int)<(names.length:Int))=false:=decide_eq_false (by omega);rw [hkn] at e1;rw [hkn,SM]
   repeat (first|(with_reducible first|refine af.up ?_|refine fun (K:AK) hK=> ?_|(refine hK _ ?_;clear hK K))|simp only [go_sem,e1]|with_reducible refine wA ?_|clear hK K)
   (refine ⟨?_, ?_, ?_⟩<;>simp only [bj,bg,AV.v.injEq,Value.int.injEq,Value.bool.injEq,Value.string.injEq,AV.vec.injEq,AV.ptr.injEq,true_or,or_true,false_or,or_false,aa.mk.injEq,forall_eq_apply_imp_iff,forall_eq,forall_eq',go_sem])
   all_goals first|rfl|trace_state
theorem D4 (l:List ByteArray) (hl:l.length<=1000000) (hne:l≠[]):bG Tryz.prog 75 [.vec 0 l.length] [some ⟨9,1,true,l.map encS⟩] (.vec 1 l.length) [some ⟨9,1,true,l.map encS⟩,some ⟨9,1,true,l.map encS⟩]:=by
 have hpos:0<l.length:=by cases l<;>simp_all
 have eL:(l.map encS).length=l.length:=by simp
 (refine bG.enter Tryz.func75 rfl (by kernel_rfl) (by kernel_rfl) rfl ?_;simp only [Tryz.ntmps75,Tryz.results75,QI,QC,Nat.reduceAdd,Nat.reduceSub,SG,SH,SB,SA])
 repeat (first|(with_reducible first|refine af.up ?_|refine fun (K:AK) hK=> ?_|(refine hK _ ?_;clear hK K))|simp only [go_sem,eL]|with_reducible refine wA ?_|clear hK K)
 (refine ⟨?_, ?_, ?_⟩<;>simp only [bj,bg,AV.v.injEq,Value.int.injEq,Value.bool.injEq,Value.string.injEq,AV.vec.injEq,AV.ptr.injEq,true_or,or_true,false_or,or_false,aa.mk.injEq,forall_eq_apply_imp_iff,forall_eq,forall_eq',go_sem])
 all_goals first|rfl|trace_state
def j9 (x n:Int):Int:=if n<1 then 0 else if x.tmod n<0 then x.tmod n+n else x.tmod n
theorem nX {x n:Int} (h:1<=n):0<=j9 x n∧j9 x n<n:=by
 have h1: ¬n<1:=by omega
 have h2:=Int.tmod_lt_of_pos x (show 0<n by omega)
 have h3: -n<x.tmod n:=by
  rcases Int.le_total 0 x with h|h
  ·have:=Int.tmod_nonneg n h;omega
  ·have:=Int.tmod_lt_of_pos (-x) (show 0<n by omega)
   rw [Int.neg_tmod] at this;omega
 unfold j9;rw [if_neg h1]
 split<;>omega
theorem JF (x n:Int) (hn:n<=1000000):ah Tryz.prog 10 [.v (.int .i64 x), .v (.int .i64 n)] (.v (.int .i64 (j9 x n))):=by
 (refine ah.enter Tryz.func10 rfl (by kernel_rfl) (by kernel_rfl) rfl (by first|rfl|(simp only [go_sem,SE,R0,R3])) (by first|rfl|(simp only [go_sem,SE,R0,R3])) ?_;simp only [Tryz.ntmps10,Tryz.results10,QI,QC,Nat.reduceAdd,Nat.reduceSub,SG,SH,SB,SA])
 repeat (first|(with_reducible first|refine af.up ?_|refine fun (K:AK) hK=> ?_|(refine hK _ ?_;clear hK K))|simp only [go_sem]|with_reducible refine wA ?_|clear hK K)
 refine cQ.part (fun h=> ?_) (fun h=> ?_)
 ·repeat (first|(with_reducible first|refine af.up ?_|refine fun (K:AK) hK=> ?_|(refine hK _ ?_;clear hK K))|simp only [go_sem]|with_reducible refine wA ?_|clear hK K)
  refine congrArg (Value.int .i64) ?_
  have h':n<1:=by simpa using h
  simp [j9,h']
 ·have h': ¬n<1:=by simpa using h
  have h0:n≠0:=by omega
  have hr:=nX (x:=x) (n:=n) (by omega)
  repeat (first|(with_reducible first|refine af.up ?_|refine fun (K:AK) hK=> ?_|(refine hK _ ?_;clear hK K))|simp only [go_sem,h0]|with_reducible refine wA ?_|clear hK K)
  refine cQ.part (fun h2=> ?_) (fun h2=> ?_)
  ·have h2':x.tmod n<0:=by simpa using h2
   have hp:j9 x n=x.tmod n+n:=by simp [j9,h',h2']
   have eW:=fE (n:=x.tmod n+n) (by omega) (by omega)
   repeat (first|(with_reducible first|refine af.up ?_|refine fun (K:AK) hK=> ?_|(refine hK _ ?_;clear hK K))|simp only [go_sem,eW]|with_reducible refine wA ?_|clear hK K)
   rw [hp]
  ·have h2': ¬x.tmod n<0:=by simpa using h2
   have hp:j9 x n=x.tmod n:=by simp [j9,h',h2']
   repeat (first|(with_reducible first|refine af.up ?_|refine fun (K:AK) hK=> ?_|(refine hK _ ?_;clear hK K))|simp only [go_sem]|with_reducible refine wA ?_|clear hK K)
   rw [hp]
theorem Hw (x:Ex) (hx:x.lens 1000000):ah Tryz.prog 117 [.agg (bn x)] (.agg (bn x)):=by
 induction x using Ex.ind with
 | h k s l ih=>
  have hk: ∀y,y∈l->y.lens 1000000:=fun y hy z hz=>hx z (by rw [aA,bZ];exact List.mem_cons_of_mem _ (List.mem_flatMap.2 ⟨y,hy,hz⟩));have hl:l.length<=1000000:=hx (.mk k s l) (by rw [aA];exact List.mem_cons_self);rw [bE];simp only [Ex.kind,Ex.label,Ex.kids]
  (refine ah.enter Tryz.func117 rfl (by kernel_rfl) (by kernel_rfl) rfl (by first|rfl|(simp only [go_sem,SE,R0,R3])) (by first|rfl|(simp only [go_sem,SE,R0,R3])) ?_;simp only [Tryz.ntmps117,Tryz.results117,QI,QC,Nat.reduceAdd,Nat.reduceSub,SG,SH,SB,SA])
  repeat (first|(with_reducible first|refine af.up ?_|refine fun (K:AK) hK=> ?_|(refine hK _ ?_;clear hK K))|simp only [go_sem]|with_reducible refine wA ?_|clear hK K)
  refine dD (ι:=Nat) 3 38 3 rfl (by decide) 10 (fun i=>[(3, .vec 2 i),(5, .undef),(9, .v (.int .i64 i))]) (fun i=>[some ⟨38,3,false,[[.v (.int .i64 k), .v (.string s), .aE 3 (l.map bn) l.length]]⟩,some ⟨38,3,false,[[.v (.int .i64 0), .v (.string ⟨#[]⟩), .v (.slice none 0 0)]]⟩,some ⟨38,3,true,(l.take i).map bn⟩]) (fun i=>l.length - i) (fun i=>i<=l.length) 0 (by omega) ?_ ?_
  ·(refine aj ?_ ?_ ?_<;>simp only [aT,R8,Sb,SG,SH,bj,bg,AV.v.injEq,Value.int.injEq,Value.bool.injEq,Value.string.injEq,AV.vec.injEq,AV.ptr.injEq,true_or,or_true,false_or,or_false,aa.mk.injEq,forall_eq_apply_imp_iff,forall_eq,forall_eq',go_sem])
   all_goals first|rfl|trace_state
  ·rintro i hi K hK;have eW:=aM (k:=i) (by omega)
   by_cases hlt:i<l.length
   ·have e1:decide ((i:Int)<(l.length:Int))=true:=decide_eq_true (by omega);have eG:=getD_map bn l i [] hlt;have HX:=ih l[i] (Su hlt) (hk _ (Su hlt))
    have eL:(l.take i).length=i:=by rw [Q4];omega
    have eT:(l.take (i+1)).map bn=(l.take i).map bn++[bn l[i]]:=ru bn l i hlt;simp only [bE] at HX eG eT
    repeat (first|(with_reducible first|refine af.up ?_|refine fun (K:AK) hK=> ?_|(refine hK _ ?_;clear hK K))|simp only [go_sem,e1,eG]|with_reducible refine wA ?_|clear hK K)
    refine ae.one HX ?_
    repeat (first|(with_reducible first|refine af.up ?_|refine fun (K:AK) hK=> ?_|(refine hK _ ?_;clear hK K))|simp only [go_sem,eW,eL]|with_reducible refine wA ?_|clear hK K)
    refine aQ.mk (i+1) (by omega) (by omega) ?_
    (refine aj ?_ ?_ ?_<;>simp only [aT,R8,Sb,SG,SH,bj,bg,AV.v.injEq,Value.int.injEq,Value.bool.injEq,Value.string.injEq,AV.vec.injEq,AV.ptr.injEq,true_or,or_true,false_or,or_false,aa.mk.injEq,forall_eq_apply_imp_iff,forall_eq,forall_eq',go_sem])
    all_goals first|rfl|exact eT.symm|trace_state
   ·have hkn:i=l.length:=by omega
    have e1:decide ((i:Int)<(l.length:Int))=false:=decide_eq_false (by omega);rw [hkn] at e1;rw [hkn,SM]
    repeat (first|(with_reducible first|refine af.up ?_|refine fun (K:AK) hK=> ?_|(refine hK _ ?_;clear hK K))|simp only [go_sem,e1]|with_reducible refine wA ?_|clear hK K)
    (refine lR.of 40 rfl ?_;simp only [go_sem])
theorem sE (p:bV) (hx:p.expr.lens 1000000):ah Tryz.prog 74 [.agg (bH p)] (.agg (bH p)):=by
 have C:=Hw p.expr hx;rw [bE] at C;simp only [bH]
 (refine ah.enter Tryz.func74 rfl (by kernel_rfl) (by kernel_rfl) rfl (by first|rfl|(simp only [go_sem,SE,R0,R3])) (by first|rfl|(simp only [go_sem,SE,R0,R3])) ?_;simp only [Tryz.ntmps74,Tryz.results74,QI,QC,Nat.reduceAdd,Nat.reduceSub,SG,SH,SB,SA])
 repeat (first|(with_reducible first|refine af.up ?_|refine fun (K:AK) hK=> ?_|(refine hK _ ?_;clear hK K))|simp only [go_sem]|clear hK K)
 refine ae.one C ?_
 repeat (first|(with_reducible first|refine af.up ?_|refine fun (K:AK) hK=> ?_|(refine hK _ ?_;clear hK K))|simp only [go_sem]|clear hK K)
 (refine lR.of 40 rfl ?_;simp only [go_sem])
theorem zn (names:List ByteArray) (s:ByteArray):ah Tryz.prog 59 [.v (.string s), .vp [aS names]] (.v (.bool (!hasB names s))):=by
 have C:=dP names s;simp only [aS] at C ⊢
 (refine ah.enter Tryz.func59 rfl (by kernel_rfl) (by kernel_rfl) rfl (by simp only [go_sem,bw,AV.wf,SE,R0,R3,aD]) (by simp only [go_sem,bw,AV.wf,aD,SE,R0,R3,aD]) ?_;simp only [Tryz.ntmps59,Tryz.results59,QI,QC,Nat.reduceAdd,Nat.reduceSub,SG,SH,SB,SA])
 repeat (first|(with_reducible first|refine af.up ?_|refine fun (K:AK) hK=> ?_|(refine hK _ ?_;clear hK K))|simp only [go_sem]|clear hK K)
 refine ae.one C ?_
 repeat (first|(with_reducible first|refine af.up ?_|refine fun (K:AK) hK=> ?_|(refine hK _ ?_;clear hK K))|simp only [go_sem]|clear hK K)
def vU (f:ByteArray->Bool) (l:List ByteArray):Int:=if l.any f then (l.findIdx f:Nat) else -1
theorem v7 {gf:FuncId} {caps:List AV} (f:ByteArray->Bool) (l:List ByteArray) (hl:l.length<=1000000) (hc: ∀s,ah Tryz.prog gf (.v (.string s) :: caps) (.v (.bool (f s)))) (hw:bw 0 caps=true) :
  ah Tryz.prog 103 [aS l, .fn gf [] caps] (.v (.int .i64 (vU f l))):=by
 simp only [aS]
 (refine ah.enter Tryz.func103 rfl (by kernel_rfl) (by kernel_rfl) rfl (by simp only [go_sem,bw,AV.wf,SE,R0,R3,hw,aD]) (by simp only [go_sem,bw,AV.wf,aD,SE,R0,R3,hw,aD]) ?_;simp only [Tryz.ntmps103,Tryz.results103,QI,QC,Nat.reduceAdd,Nat.reduceSub,SG,SH,SB,SA])
 repeat (first|(with_reducible first|refine af.up ?_|refine fun (K:AK) hK=> ?_|(refine hK _ ?_;clear hK K))|simp only [go_sem]|with_reducible refine wA ?_|clear hK K)
 refine dq (ι:=Nat) 9 (fun k=>[(5, .undef),(8, .v (.int .i64 k))]) (fun k=>l.length - k) (fun k=>k<=l.length∧ ∀(j:Nat) (h:j<l.length),j<k->f l[j]=false) 0 ⟨Nat.zero_le _,fun j _ h=>absurd h (Nat.not_lt_zero _)⟩ ?_ ?_
 ·(refine aj ?_ ?_ ?_<;>simp only [aT,R8,Sb,SG,SH,bj,bg,AV.v.injEq,Value.int.injEq,Value.bool.injEq,Value.string.injEq,AV.vec.injEq,AV.ptr.injEq,true_or,or_true,false_or,or_false,aa.mk.injEq,forall_eq_apply_imp_iff,forall_eq,forall_eq',go_sem])
  all_goals first|rfl|exact ⟨hw,rfl⟩|trace_state
 ·rintro k ⟨hk,hlo⟩ K hK;have eW:=aM (k:=k) (by omega)
  by_cases hlt:k<l.length
  ·have e1:decide ((k:Int)<(l.length:Int))=true:=decide_eq_true (by omega);have eG:=getD_map encS l k [] hlt;simp only [encS] at eG;have C:=hc l[k]
   repeat (first|(with_reducible first|refine af.up ?_|refine fun (K:AK) hK=> ?_|(refine hK _ ?_;clear hK K))|simp only [go_sem,e1,eG]|with_reducible refine wA ?_|clear hK K)
   refine ae.one C ?_
   cases hb:f l[k]
   ·repeat (first|(with_reducible first|refine af.up ?_|refine fun (K:AK) hK=> ?_|(refine hK _ ?_;clear hK K))|simp only [go_sem,hb]|with_reducible refine wA ?_|clear hK K)
    repeat (first|(with_reducible first|refine af.up ?_|refine fun (K:AK) hK=> ?_|(refine hK _ ?_;clear hK K))|simp only [go_sem,eW]|with_reducible refine wA ?_|clear hK K)
    exact aQ.mk (k+1) ⟨hlt,fun j hj hjk=>by
     rcases Nat.lt_succ_iff_lt_or_eq.1 hjk with q|rfl
     ·exact hlo j hj q
     ·exact hb⟩ (by omega) (by (refine aj ?_ ?_ ?_<;>simp only [aT,R8,Sb,SG,SH,bj,bg,AV.v.injEq,Value.int.injEq,Value.bool.injEq,Value.string.injEq,AV.vec.injEq,AV.ptr.injEq,true_or,or_true,false_or,or_false,aa.mk.injEq,forall_eq_apply_imp_iff,forall_eq,forall_eq',go_sem]);exact hw)
   ·have eI:vU f l=(k:Int):=by
     rw [vU,if_pos (List.any_eq_true.2 ⟨_,Su hlt,hb⟩)];refine congrArg Nat.cast ?_
     exact (List.findIdx_eq hlt).2 ⟨hb,fun j hj=>by
      have:=hlo j (by omega) hj
      simpa using this⟩
    repeat (first|(with_reducible first|refine af.up ?_|refine fun (K:AK) hK=> ?_|(refine hK _ ?_;clear hK K))|simp only [go_sem,hb]|with_reducible refine wA ?_|clear hK K)
    rw [eI]
  ·have e1:decide ((k:Int)<(l.length:Int))=false:=decide_eq_false (by omega)
   have eI:vU f l = -1:=by
    rw [vU,if_neg ?_];intro h;obtain ⟨x,hx,hfx⟩:=List.any_eq_true.1 h;obtain ⟨j,hj,rfl⟩:=List.getElem_of_mem hx;rw [hlo j hj (by omega)] at hfx;cases hfx
   repeat (first|(with_reducible first|refine af.up ?_|refine fun (K:AK) hK=> ?_|(refine hK _ ?_;clear hK K))|simp only [go_sem,e1]|with_reducible refine wA ?_|clear hK K)
   rw [eI]
theorem po {gf:FuncId} {caps:List AV} (f:ByteArray->Bool) (l:List ByteArray) (hl:l.length<=1000000) (hc: ∀s,ah Tryz.prog gf (.v (.string s) :: caps) (.v (.bool (f s)))) (hw:bw 0 caps=true) :
  ah Tryz.prog 61 [aS l, .fn gf [] caps] (.v (.bool (l.any f))):=by
 have C:=v7 f l hl hc hw
 have e:decide (vU f l ≥ 0)=l.any f:=by
  unfold vU
  cases h:l.any f
  ·simp
  ·simp
 generalize vU f l=d at C e;simp only [aS] at C ⊢
 (refine ah.enter Tryz.func61 rfl (by kernel_rfl) (by kernel_rfl) rfl (by simp only [go_sem,bw,AV.wf,SE,R0,R3,hw,aD]) (by simp only [go_sem,bw,AV.wf,aD,SE,R0,R3,hw,aD]) ?_;simp only [Tryz.ntmps61,Tryz.results61,QI,QC,Nat.reduceAdd,Nat.reduceSub,SG,SH,SB,SA])
 repeat (first|(with_reducible first|refine af.up ?_|refine fun (K:AK) hK=> ?_|(refine hK _ ?_;clear hK K))|simp only [go_sem]|clear hK K)
 refine ae.one C ?_
 repeat (first|(with_reducible first|refine af.up ?_|refine fun (K:AK) hK=> ?_|(refine hK _ ?_;clear hK K))|simp only [go_sem,e]|clear hK K)
def qe (c:dK) (k:Nat):List ByteArray:=([c.left,c.right].take k).foldl gv []
theorem Hl (c:dK) (k:Nat):(qe c k).length<=2:=by
 have h: ∀out o,(gv out o).length<=out.length+1:=fun out o=>by
  unfold gv
  split
  ·unfold aq;split<;>simp
  ·omega
 have h1:=h [] c.left;have h2:=h (gv [] c.left) c.right;simp only [QC] at h1
 match k with
 | 0=>simp [qe]
 | 1=>simp only [qe,S4,S0,R8,Sb];omega
 | k+2=>simp only [qe,S4,List.take_nil,R8,Sb];omega
theorem Lo (c:dK):qe c 2=ft c:=rfl
theorem Ab {c:dK} {k:Nat} {o:eX} (ho:[c.left,c.right][k]? = some o) (h:iz o=true):[o.name].foldl aq (qe c k)=qe c (k+1):=by
 match k,ho with
 | 0,ho=>cases ho;simp only [qe,S4,S0,R8,Sb,gv,h,if_true]
 | 1,ho=>cases ho;simp only [qe,S4,S0,R8,Sb];rw [gv.eq_1 _ c.right,h,if_pos rfl]
 | k+2,ho=>cases ho
theorem ER {c:dK} {k:Nat} {o:eX} (ho:[c.left,c.right][k]? = some o) (h:iz o=false):qe c k=qe c (k+1):=by
 match k,ho with
 | 0,ho=>cases ho;simp only [qe,S4,S0,R8,Sb,gv,h,if_false,Bool.false_eq_true]
 | 1,ho=>cases ho;simp only [qe,S4,S0,R8,Sb];rw [gv.eq_1 _ c.right,h,if_neg (by decide)]
 | k+2,ho=>cases ho
theorem E3 (c:dK):ah Tryz.prog 19 [.agg (aK c)] (aS (ft c)):=by
 have n0:qe c 0=[]:=rfl;have nY0:iz c.left=true->[c.left.name].foldl aq (qe c 0)=qe c 1:=fun h=>Ab (c:=c) (k:=0) (o:=c.left) rfl h;have nY1:iz c.right=true->[c.right.name].foldl aq (qe c 1)=qe c 2:=fun h=>Ab (c:=c) (k:=1) (o:=c.right) rfl h;have nN0:iz c.left=false->qe c 0=qe c 1:=fun h=>ER (c:=c) (k:=0) (o:=c.left) rfl h;have nN1:iz c.right=false->qe c 1=qe c 2:=fun h=>ER (c:=c) (k:=1) (o:=c.right) rfl h;have nl:=Hl c;have eZ: ∀f l,bR f (List.map encS l)=List.map encS l:=fun f l=>bN _ _ (aD _ _);rw [<-Lo];generalize qe c=nm at *;obtain ⟨op,l,r⟩:=c;simp only [aS,aK,iz] at *
 (refine ah.enter Tryz.func19 rfl (by kernel_rfl) (by kernel_rfl) rfl (by first|rfl|(simp only [go_sem,SE,R0,R3])) (by first|rfl|(simp only [go_sem,SE,R0,R3])) ?_;simp only [Tryz.ntmps19,Tryz.results19,List.length_cons,QC,Nat.reduceAdd,Nat.reduceSub,SG,SH,List.cons_append,List.nil_append])
 repeat (first|(with_reducible first|refine af.up ?_|refine fun (K:AK) hK=> ?_|(refine hK _ ?_;clear hK K))|simp only [go_sem]|with_reducible refine wA ?_|clear hK K)
 refine dD (ι:=Nat) 2 9 1 rfl (by decide) 11 (fun k=>[(2, .vec 1 (nm k).length),(4, .undef),(10, .v (.int .i64 k))]) (fun k=>[some ⟨67,13,false,[[.v (.int .i64 op), .v (.int .i64 l.kind), .v (.string l.name), .v (.string l.key), .v (.int .i64 l.val.kind), .v (.int .i64 l.val.num), .v (.string l.val.text), .v (.int .i64 r.kind), .v (.string r.name), .v (.string r.key), .v (.int .i64 r.val.kind), .v (.int .i64 r.val.num), .v (.string r.val.text)]]⟩,some ⟨9,1,true,(nm k).map encS⟩]) (fun k=>2 - k) (fun k=>k<=2) 0 (by omega) ?_ ?_
 ·rw [n0]
  (refine aj ?_ ?_ ?_<;>simp only [aT,R8,Sb,SG,SH,bj,bg,AV.v.injEq,Value.int.injEq,Value.bool.injEq,Value.string.injEq,AV.vec.injEq,AV.ptr.injEq,true_or,or_true,false_or,or_false,aa.mk.injEq,forall_eq_apply_imp_iff,forall_eq,forall_eq',go_sem])
  all_goals first|rfl|trace_state
 rintro i hi K hK;have c0:((0:Nat):Int)=0:=rfl;have c1:((1:Nat):Int)=1:=rfl;have c2:((2:Nat):Int)=2:=rfl;have w1:IntKind.i64.wrap ((0:Int)+1)=1:=rfl;have w2:IntKind.i64.wrap ((1:Int)+1)=2:=rfl
 have hi3:i=0∨i=1∨i=2:=by omega
 rcases hi3 with hi0|hi0|hi0
 ·have ll:=nl 0
  have lm:((nm 0).map encS).length=(nm 0).length:=by simp
  cases hb:(l.kind==1||l.kind==2)
  ·have hs:=nN0 hb;simp only [Tv] at hb
   repeat (first|(with_reducible first|refine af.up ?_|refine fun (K:AK) hK=> ?_|(refine hK _ ?_;clear hK K))|simp only [go_sem,hi0,c0,c1,c2,decide_true,decide_false,hb.1,hb.2,Go.undef]|with_reducible refine wA ?_|clear hK K)
   repeat (first|(with_reducible first|refine af.up ?_|refine fun (K:AK) hK=> ?_|(refine hK _ ?_;clear hK K))|simp only [go_sem,w1]|with_reducible refine wA ?_|clear hK K)
   refine aQ.mk 1 (by omega) (by omega) ?_;rw [hs]
   (refine aj ?_ ?_ ?_<;>simp only [aT,R8,Sb,SG,SH,bj,bg,AV.v.injEq,Value.int.injEq,Value.bool.injEq,Value.string.injEq,AV.vec.injEq,AV.ptr.injEq,true_or,or_true,false_or,or_false,aa.mk.injEq,forall_eq_apply_imp_iff,forall_eq,forall_eq',go_sem])
   all_goals first|rfl|trace_state
  ·have U:=qO (nm 0) [l.name] (by omega) (by simp);rw [nY0 hb] at U
   have fin:l.kind=1∨(l.kind==1)=false∧(l.kind==2)=true:=by
    cases h1:(l.kind==1)
    ·rw [h1] at hb;exact .inr ⟨rfl,by simpa using hb⟩
    ·exact .inl (by simpa using h1)
   rcases fin with h1|⟨h1,h2⟩
   ·have h1:(l.kind==1)=true:=by simp [h1]
    repeat (first|(with_reducible first|refine af.up ?_|refine fun (K:AK) hK=> ?_|(refine hK _ ?_;clear hK K))|simp only [go_sem,hi0,c0,c1,c2,decide_true,decide_false,h1,Go.undef]|with_reducible refine wA ?_|clear hK K)
    refine ae.fr [1,3] U (by simp) ?_ ?_ ?_ ?_ ?_
    ·simp only [Tc,Ti,RU,SC,Rb,aa.bl,bR,bQ,AV.bl,eZ,encS]
    ·rfl
    ·rfl
    ·intro j ob hj
     match j,hj with
     | 0,hj=>cases hj;exact aD _ _
     | 1,hj=>cases hj;exact aD _ _
     | j+2,hj=>simp at hj
    repeat (first|(with_reducible first|refine af.up ?_|refine fun (K:AK) hK=> ?_|(refine hK _ ?_;clear hK K))|simp only [go_sem,eZ]|with_reducible refine wA ?_|clear hK K)
    repeat (first|(with_reducible first|refine af.up ?_|refine fun (K:AK) hK=> ?_|(refine hK _ ?_;clear hK K))|simp only [go_sem,w1]|with_reducible refine wA ?_|clear hK K)
    refine aQ.mk 1 (by omega) (by omega) ?_
    (refine aj ?_ ?_ ?_<;>simp only [aT,R8,Sb,SG,SH,bj,bg,AV.v.injEq,Value.int.injEq,Value.bool.injEq,Value.string.injEq,AV.vec.injEq,AV.ptr.injEq,true_or,or_true,false_or,or_false,aa.mk.injEq,forall_eq_apply_imp_iff,forall_eq,forall_eq',go_sem])
    all_goals first|rfl|trace_state
   ·repeat (first|(with_reducible first|refine af.up ?_|refine fun (K:AK) hK=> ?_|(refine hK _ ?_;clear hK K))|simp only [go_sem,hi0,c0,c1,c2,decide_true,decide_false,h1,h2,Go.undef]|with_reducible refine wA ?_|clear hK K)
    refine ae.fr [1,3] U (by simp) ?_ ?_ ?_ ?_ ?_
    ·simp only [Tc,Ti,RU,SC,Rb,aa.bl,bR,bQ,AV.bl,eZ,encS]
    ·rfl
    ·rfl
    ·intro j ob hj
     match j,hj with
     | 0,hj=>cases hj;exact aD _ _
     | 1,hj=>cases hj;exact aD _ _
     | j+2,hj=>simp at hj
    repeat (first|(with_reducible first|refine af.up ?_|refine fun (K:AK) hK=> ?_|(refine hK _ ?_;clear hK K))|simp only [go_sem,eZ]|with_reducible refine wA ?_|clear hK K)
    repeat (first|(with_reducible first|refine af.up ?_|refine fun (K:AK) hK=> ?_|(refine hK _ ?_;clear hK K))|simp only [go_sem,w1]|with_reducible refine wA ?_|clear hK K)
    refine aQ.mk 1 (by omega) (by omega) ?_
    (refine aj ?_ ?_ ?_<;>simp only [aT,R8,Sb,SG,SH,bj,bg,AV.v.injEq,Value.int.injEq,Value.bool.injEq,Value.string.injEq,AV.vec.injEq,AV.ptr.injEq,true_or,or_true,false_or,or_false,aa.mk.injEq,forall_eq_apply_imp_iff,forall_eq,forall_eq',go_sem])
    all_goals first|rfl|trace_state
 ·have ll:=nl 1
  have lm:((nm 1).map encS).length=(nm 1).length:=by simp
  cases hb:(r.kind==1||r.kind==2)
  ·have hs:=nN1 hb;simp only [Tv] at hb
   repeat (first|(with_reducible first|refine af.up ?_|refine fun (K:AK) hK=> ?_|(refine hK _ ?_;clear hK K))|simp only [go_sem,hi0,c0,c1,c2,decide_true,decide_false,hb.1,hb.2,Go.undef]|with_reducible refine wA ?_|clear hK K)
   repeat (first|(with_reducible first|refine af.up ?_|refine fun (K:AK) hK=> ?_|(refine hK _ ?_;clear hK K))|simp only [go_sem,w2]|with_reducible refine wA ?_|clear hK K)
   refine aQ.mk 2 (by omega) (by omega) ?_;rw [hs]
   (refine aj ?_ ?_ ?_<;>simp only [aT,R8,Sb,SG,SH,bj,bg,AV.v.injEq,Value.int.injEq,Value.bool.injEq,Value.string.injEq,AV.vec.injEq,AV.ptr.injEq,true_or,or_true,false_or,or_false,aa.mk.injEq,forall_eq_apply_imp_iff,forall_eq,forall_eq',go_sem])
   all_goals first|rfl|trace_state
  ·have U:=qO (nm 1) [r.name] (by omega) (by simp);rw [nY1 hb] at U
   have fin:r.kind=1∨(r.kind==1)=false∧(r.kind==2)=true:=by
    cases h1:(r.kind==1)
    ·rw [h1] at hb;exact .inr ⟨rfl,by simpa using hb⟩
    ·exact .inl (by simpa using h1)
   rcases fin with h1|⟨h1,h2⟩
   ·have h1:(r.kind==1)=true:=by simp [h1]
    repeat (first|(with_reducible first|refine af.up ?_|refine fun (K:AK) hK=> ?_|(refine hK _ ?_;clear hK K))|simp only [go_sem,hi0,c0,c1,c2,decide_true,decide_false,h1,Go.undef]|with_reducible refine wA ?_|clear hK K)
    refine ae.fr [1,3] U (by simp) ?_ ?_ ?_ ?_ ?_
    ·simp only [Tc,Ti,RU,SC,Rb,aa.bl,bR,bQ,AV.bl,eZ,encS]
    ·rfl
    ·rfl
    ·intro j ob hj
     match j,hj with
     | 0,hj=>cases hj;exact aD _ _
     | 1,hj=>cases hj;exact aD _ _
     | j+2,hj=>simp at hj
    repeat (first|(with_reducible first|refine af.up ?_|refine fun (K:AK) hK=> ?_|(refine hK _ ?_;clear hK K))|simp only [go_sem,eZ]|with_reducible refine wA ?_|clear hK K)
    repeat (first|(with_reducible first|refine af.up ?_|refine fun (K:AK) hK=> ?_|(refine hK _ ?_;clear hK K))|simp only [go_sem,w2]|with_reducible refine wA ?_|clear hK K)
    refine aQ.mk 2 (by omega) (by omega) ?_
    (refine aj ?_ ?_ ?_<;>simp only [aT,R8,Sb,SG,SH,bj,bg,AV.v.injEq,Value.int.injEq,Value.bool.injEq,Value.string.injEq,AV.vec.injEq,AV.ptr.injEq,true_or,or_true,false_or,or_false,aa.mk.injEq,forall_eq_apply_imp_iff,forall_eq,forall_eq',go_sem])
    all_goals first|rfl|trace_state
   ·repeat (first|(with_reducible first|refine af.up ?_|refine fun (K:AK) hK=> ?_|(refine hK _ ?_;clear hK K))|simp only [go_sem,hi0,c0,c1,c2,decide_true,decide_false,h1,h2,Go.undef]|with_reducible refine wA ?_|clear hK K)
    refine ae.fr [1,3] U (by simp) ?_ ?_ ?_ ?_ ?_
    ·simp only [Tc,Ti,RU,SC,Rb,aa.bl,bR,bQ,AV.bl,eZ,encS]
    ·rfl
    ·rfl
    ·intro j ob hj
     match j,hj with
     | 0,hj=>cases hj;exact aD _ _
     | 1,hj=>cases hj;exact aD _ _
     | j+2,hj=>simp at hj
    repeat (first|(with_reducible first|refine af.up ?_|refine fun (K:AK) hK=> ?_|(refine hK _ ?_;clear hK K))|simp only [go_sem,eZ]|with_reducible refine wA ?_|clear hK K)
    repeat (first|(with_reducible first|refine af.up ?_|refine fun (K:AK) hK=> ?_|(refine hK _ ?_;clear hK K))|simp only [go_sem,w2]|with_reducible refine wA ?_|clear hK K)
    refine aQ.mk 2 (by omega) (by omega) ?_
    (refine aj ?_ ?_ ?_<;>simp only [aT,R8,Sb,SG,SH,bj,bg,AV.v.injEq,Value.int.injEq,Value.bool.injEq,Value.string.injEq,AV.vec.injEq,AV.ptr.injEq,true_or,or_true,false_or,or_false,aa.mk.injEq,forall_eq_apply_imp_iff,forall_eq,forall_eq',go_sem])
    all_goals first|rfl|trace_state
 ·repeat (first|(with_reducible first|refine af.up ?_|refine fun (K:AK) hK=> ?_|(refine hK _ ?_;clear hK K))|simp only [go_sem,hi0,c0,c1,c2,decide_true,decide_false]|with_reducible refine wA ?_|clear hK K)
  (refine lR.of 40 rfl ?_;simp only [go_sem])
theorem kJ (c:dK) (names:List ByteArray):ah Tryz.prog 21 [.agg (aK c),aS names] (.v (.bool (aR c names))):=by
 have N:=E3 c;have hl:=tu c;have C:=po (gf:=59) (caps:=[.vp [aS names]]) (fun s=> !hasB names s) (ft c) (by omega) (zn names) (by simp only [aS,go_sem,bw,AV.wf,aD,SE])
 have e:(!(ft c).any (fun s=> !hasB names s))=aR c names:=by rw [aR,List.all_eq_not_any_not]
 generalize (ft c).any (fun s=> !hasB names s)=bb at *;generalize ft c=cn at *;obtain ⟨op,l,r⟩:=c;simp only [aS,aK] at *
 (refine ah.enter Tryz.func21 rfl (by kernel_rfl) (by kernel_rfl) rfl (by simp only [go_sem,bw,AV.wf,SE,R0,R3,aD]) (by simp only [go_sem,bw,AV.wf,aD,SE,R0,R3,aD]) ?_;simp only [Tryz.ntmps21,Tryz.results21,List.length_cons,QC,Nat.reduceAdd,Nat.reduceSub,SG,SH,List.cons_append,List.nil_append])
 repeat (first|(with_reducible first|refine af.up ?_|refine fun (K:AK) hK=> ?_|(refine hK _ ?_;clear hK K))|simp only [go_sem]|clear hK K)
 refine ae.one N ?_
 repeat (first|(with_reducible first|refine af.up ?_|refine fun (K:AK) hK=> ?_|(refine hK _ ?_;clear hK K))|simp only [go_sem]|clear hK K)
 refine ae.xL C 60 rfl (by simp only [go_sem,Nat.reduceLT,Nat.reduceLeDiff,Nat.reduceEqDiff,Nat.lt_add_one,Nat.zero_lt_one,and_self,aD]) rfl ?_
 repeat (first|(with_reducible first|refine af.up ?_|refine fun (K:AK) hK=> ?_|(refine hK _ ?_;clear hK K))|simp only [go_sem,e]|clear hK K)
theorem cB {α:Type} (q:α->Bool) (l:List α) {k:Nat} (h:k<l.length):(l.take (k+1)).filter q=if q l[k] then (l.take k).filter q++[l[k]] else (l.take k).filter q:=by
 rw [List.take_succ_eq_append_getElem h,List.filter_append];cases hq:q l[k]<;>simp [hq]
theorem Ih (p:bV) (bound:List ByteArray) (ws:List dK) (hx:p.expr.lens 1000000) (hb:bound.length<=100000) (hne:bound≠[]) (hw:ws.length<=100000) :
  bG Tryz.prog 39 [.agg (bH p), .vec 1 bound.length, .ptr 0 0 1 0 0] [some ⟨23,1,false,[[.aE 13 (ws.map aK) ws.length]]⟩,some ⟨9,1,true,bound.map encS⟩]
   (.agg (bH p++[aS (keysOf p bound),aS ((bS p bound).drop bound.length), .aE 13 ((ws.filter (fun c=>aR c (bS p bound))).map aK) (ws.filter (fun c=>aR c (bS p bound))).length]))
   [some ⟨23,1,false,[[.aE 13 ((leftOf p bound ws).map aK) (leftOf p bound ws).length]]⟩,some ⟨9,1,true,bound.map encS⟩]:=by
 have PC:=sE p hx;have U0:=nG [p.aT,p.to] (by simp);have CL:=D4 bound (by omega) hne;have UN:=qO bound (aU p) (by omega) (by have:=fZ p;omega);have hnl:=kH p bound;have hpre:=sr p bound;have CS:=IK ((bS p bound).drop bound.length) (by rw [Tw];omega);have eZ: ∀f l,bR f (List.map encS l)=List.map encS l:=fun f l=>bN _ _ (aD _ _)
 have eB:(bound.map encS).length=bound.length:=by simp
 have eK: ∀kl:List ByteArray,(kl.map encS).length=kl.length:=fun kl=>by simp
 have hkl:=fe [p.aT,p.to] [];have ek:keysOf p bound=([p.aT,p.to].foldl aq []).filter (hasB bound):=rfl;generalize [p.aT,p.to].foldl aq []=kl at *;rw [ek];simp only [leftOf];rw [<-bS] at UN;generalize bS p bound=now at *;obtain ⟨f,t,h,l,n,⟨xk,xs,xl⟩⟩:=p;simp only [bH,aS,Ex.kind,Ex.label,Ex.kids,List.length_cons,QC,Nat.reduceAdd] at *
 (refine bG.enter Tryz.func39 rfl (by kernel_rfl) (by kernel_rfl) rfl ?_;simp only [Tryz.ntmps39,Tryz.results39,List.length_cons,QC,Nat.reduceAdd,Nat.reduceSub,SG,SH,List.cons_append,List.nil_append])
 repeat (first|(with_reducible first|refine af.up ?_|refine fun (K:AK) hK=> ?_|(refine hK _ ?_;clear hK K))|simp only [go_sem]|with_reducible refine wA ?_|clear hK K)
 refine ae.one PC ?_
 repeat ((fail_if_success (with_reducible refine br (i:=3) ?_));first|(with_reducible first|refine af.up ?_|refine fun (K:AK) hK=> ?_|(refine hK _ ?_;clear hK K))|simp only [go_sem]|with_reducible refine wA ?_|clear hK K)
 refine aJ (b7 (k:=4) (i:=0) (j:=8) 9 1 (by decide) rfl (Tp _) rfl rfl) (by kernel_rfl) ?_
 repeat (first|(with_reducible first|refine af.up ?_|refine fun (K:AK) hK=> ?_|(refine hK _ ?_;clear hK K))|simp only [go_sem]|with_reducible refine wA ?_|clear hK K)
 refine ae.fr [5] U0 (by simp) ?_ ?_ ?_ ?_ ?_
 ·simp only [Tc,Ti,RU,SC,Rb,aa.bl,bR,bQ,AV.bl,eZ,encS]
 ·rfl
 ·rfl
 ·intro j ob hj
  match j,hj with
  | 0,hj=>cases hj;exact aD _ [_,_]
  | j+1,hj=>simp at hj
 repeat (first|(with_reducible first|refine af.up ?_|refine fun (K:AK) hK=> ?_|(refine hK _ ?_;clear hK K))|simp only [go_sem,eZ]|with_reducible refine wA ?_|clear hK K)
 refine cM (ι:=Nat) 27 (fun k=>[(10, .undef),(26, .v (.int .i64 k))]) (fun k=>[some ⟨23,1,false,[[.aE 13 (ws.map aK) ws.length]]⟩,some ⟨9,1,true,bound.map encS⟩,some ⟨40,8,false,[[.v (.string f), .v (.string t), .v (.bool h), .v (.string l), .v (.string n), .v (.int .i64 xk), .v (.string xs), .aE 3 (xl.map bn) xl.length]]⟩,some ⟨45,11,false,[[.v (.string ⟨#[]⟩), .v (.string ⟨#[]⟩), .v (.bool false), .v (.string ⟨#[]⟩), .v (.string ⟨#[]⟩), .v (.int .i64 0), .v (.string ⟨#[]⟩), .v (.slice none 0 0), .v (.slice none 0 0), .v (.slice none 0 0), .v (.slice none 0 0)]]⟩,some ⟨45,11,false,[[.v (.string f), .v (.string t), .v (.bool h), .v (.string l), .v (.string n), .v (.int .i64 xk), .v (.string xs), .aE 3 (xl.map bn) xl.length, .vec 6 ((kl.take k).filter (hasB bound)).length, .v (.slice none 0 0), .v (.slice none 0 0)]]⟩,some ⟨9,1,true,[[.v (.string f)],[.v (.string t)]]⟩,some ⟨9,1,true,((kl.take k).filter (hasB bound)).map encS⟩,some ⟨9,1,true,kl.map encS⟩]) (fun k=>kl.length - k) (fun k=>k<=kl.length) 0 (QJ _) ?_ ?_
 ·simp only [S0,Tx,QC,Ti]
  (refine aj ?_ ?_ ?_<;>simp only [aT,R8,Sb,SG,SH,bj,bg,AV.v.injEq,Value.int.injEq,Value.bool.injEq,Value.string.injEq,AV.vec.injEq,AV.ptr.injEq,true_or,or_true,false_or,or_false,aa.mk.injEq,forall_eq_apply_imp_iff,forall_eq,forall_eq',go_sem])
  all_goals first|rfl|trace_state
 ·intro k hk K hK;have eW:=aM (k:=k) (by omega)
  by_cases hlt:k<kl.length
  ·have e1:decide ((k:Int)<(kl.length:Int))=true:=decide_eq_true (by omega);have eG:=getD_map encS kl k [] hlt;have eS:=cB (hasB bound) kl hlt;have C:=dP bound kl[k];have hlc:((kl.take k).filter (hasB bound)).length<=2:=Qz (Ty _ _) (by rw [Q4];omega);simp only [encS] at eG;simp only [aS] at C;generalize (kl.take k).filter (hasB bound)=cur at *
   have eLc:(cur.map encS).length=cur.length:=by simp
   repeat (first|(with_reducible first|refine af.up ?_|refine fun (K:AK) hK=> ?_|(refine hK _ ?_;clear hK K))|simp only [go_sem,e1,eG]|with_reducible refine wA ?_|clear hK K)
   refine ae.xL C 8 rfl (by simp only [go_sem,Nat.reduceLT,Nat.reduceLeDiff,Nat.reduceEqDiff,Nat.lt_add_one,Nat.zero_lt_one,and_self,aD]) rfl ?_
   cases hb:hasB bound kl[k]
   ·rw [hb] at eS;simp only [Sr,if_false] at eS
    repeat (first|(with_reducible first|refine af.up ?_|refine fun (K:AK) hK=> ?_|(refine hK _ ?_;clear hK K))|simp only [go_sem,hb]|with_reducible refine wA ?_|clear hK K)
    repeat (first|(with_reducible first|refine af.up ?_|refine fun (K:AK) hK=> ?_|(refine hK _ ?_;clear hK K))|simp only [go_sem,eW]|with_reducible refine wA ?_|clear hK K)
    refine aQ.mk (k+1) hlt (by omega) ?_;simp only [eS]
    (refine aj ?_ ?_ ?_<;>simp only [aT,R8,Sb,SG,SH,bj,bg,AV.v.injEq,Value.int.injEq,Value.bool.injEq,Value.string.injEq,AV.vec.injEq,AV.ptr.injEq,true_or,or_true,false_or,or_false,aa.mk.injEq,forall_eq_apply_imp_iff,forall_eq,forall_eq',go_sem])
    all_goals first|rfl|trace_state
   ·rw [hb] at eS;simp only [if_true] at eS
    have eA:cur.map encS++[[AV.v (.string kl[k])]]=((kl.take (k+1)).filter (hasB bound)).map encS:=by rw [eS,List.map_append];rfl
    have eB:cur.length+1=((kl.take (k+1)).filter (hasB bound)).length:=by rw [eS];simp
    repeat (first|(with_reducible first|refine af.up ?_|refine fun (K:AK) hK=> ?_|(refine hK _ ?_;clear hK K))|simp only [go_sem,hb]|with_reducible refine wA ?_|clear hK K)
    repeat (first|(with_reducible first|refine af.up ?_|refine fun (K:AK) hK=> ?_|(refine hK _ ?_;clear hK K))|simp only [go_sem,eW]|with_reducible refine wA ?_|clear hK K)
    refine aQ.mk (k+1) hlt (by omega) ?_;simp only [eA,eB]
    (refine aj ?_ ?_ ?_<;>simp only [aT,R8,Sb,SG,SH,bj,bg,AV.v.injEq,Value.int.injEq,Value.bool.injEq,Value.string.injEq,AV.vec.injEq,AV.ptr.injEq,true_or,or_true,false_or,or_false,aa.mk.injEq,forall_eq_apply_imp_iff,forall_eq,forall_eq',go_sem])
    all_goals first|rfl|trace_state
  ·have hkn:k=kl.length:=by omega
   have e1:decide ((k:Int)<(kl.length:Int))=false:=decide_eq_false (by omega);rw [hkn] at e1;rw [hkn,SM]
   repeat ((fail_if_success (with_reducible refine br (i:=9) ?_));first|(with_reducible first|refine af.up ?_|refine fun (K:AK) hK=> ?_|(refine hK _ ?_;clear hK K))|simp only [go_sem,e1]|with_reducible refine wA ?_|clear hK K)
   have ways:((!h)=false∧(!h)=false∧aU ⟨f,t,h,l,n, .mk xk xs xl⟩=[f,t])∨((!h)=true∧(n.toList==(⟨#[]⟩:ByteArray).toList)=true∧aU ⟨f,t,h,l,n, .mk xk xs xl⟩=[f,t])∨((!h)=true∧(n.toList==(⟨#[]⟩:ByteArray).toList)=false∧aU ⟨f,t,h,l,n, .mk xk xs xl⟩=[f,t,n]):=by
    rw [<-gP];unfold aU
    cases h
    ·cases hn:eU n
     ·exact .inr (.inr ⟨rfl,rfl,by simp [hn]⟩)
     ·exact .inr (.inl ⟨rfl,rfl,by simp [hn]⟩)
    ·exact .inl ⟨rfl,rfl,by simp⟩
   have hnb:bound.length<=now.length:=by rw [hpre];simp
   have r1:((now.map encS).drop bound.length).take (now.length - bound.length)=(now.drop bound.length).map encS:=by
    rw [<-Tz];exact List.take_of_length_le (by simp)
   have r2:(now.drop bound.length).length=now.length - bound.length:=by simp
   have r3:(bound.length:Int)<=(now.length:Int):=by omega
   have r4:(0:Int)<=(bound.length:Int):=by omega
   have eN:(now.map encS).length=now.length:=by simp
   have eKl:=eK kl
   have wfD: ∀m,dz m ((now.map encS).drop bound.length)=true:=fun m=>by rw [<-Tz];exact aD _ _
   have eKy:=eK (kl.filter (hasB bound));simp only [Tz,r2] at CS;clear eK hpre
   rcases ways with ⟨hh,hn,hL⟩|⟨hh,hn,hL⟩|⟨hh,hn,hL⟩
   ·rw [hL] at UN
    repeat ((fail_if_success (with_reducible refine br (i:=11) ?_));first|(with_reducible first|refine af.up ?_|refine fun (K:AK) hK=> ?_|(refine hK _ ?_;clear hK K))|simp only [go_sem,hh,hn,Go.undef]|with_reducible refine wA ?_|clear hK K)
    repeat (first|(with_reducible first|refine af.up ?_|refine fun (K:AK) hK=> ?_|(refine hK _ ?_;clear hK K))|simp only [go_sem]|with_reducible refine wA ?_|clear hK K)
    refine ae.fr [1] CL (by simp) ?_ ?_ ?_ ?_ ?_
    ·simp only [Tc,Ti,RU,SC,Rb,aa.bl,eZ]
    ·rfl
    ·rfl
    ·intro j ob hj
     match j,hj with
     | 0,hj=>cases hj;exact aD _ _
     | j+1,hj=>simp at hj
    repeat (first|(with_reducible first|refine af.up ?_|refine fun (K:AK) hK=> ?_|(refine hK _ ?_;clear hK K))|simp only [go_sem,eZ]|with_reducible refine wA ?_|clear hK K)
    refine ae.fr [8,5] UN (by simp) ?_ ?_ ?_ ?_ ?_
    ·simp only [Tc,Ti,RU,SC,Rb,aa.bl,bR,bQ,AV.bl,eZ,encS]
    ·rfl
    ·rfl
    ·intro j ob hj
     match j,hj with
     | 0,hj=>cases hj;exact aD _ _
     | 1,hj=>cases hj;rfl
     | j+2,hj=>simp at hj
    repeat ((fail_if_success (with_reducible refine br (i:=12) ?_));first|(with_reducible first|refine af.up ?_|refine fun (K:AK) hK=> ?_|(refine hK _ ?_;clear hK K))|simp only [go_sem,eZ]|with_reducible refine wA ?_|clear hK K)
    refine aJ (da 11 8 rfl rfl rfl eN) (by kernel_rfl) ?_
    repeat (first|(with_reducible first|refine af.up ?_|refine fun (K:AK) hK=> ?_|(refine hK _ ?_;clear hK K))|simp only [go_sem,r1,r3,r4,eN]|with_reducible refine wA ?_|clear hK K)
    refine ae.one CS ?_
    repeat ((fail_if_success (with_reducible refine br (i:=13) ?_));first|(with_reducible first|refine af.up ?_|refine fun (K:AK) hK=> ?_|(refine hK _ ?_;clear hK K))|simp only [go_sem]|with_reducible refine wA ?_|clear hK K)
    refine aJ (b7 (k:=4) (i:=0) (j:=10) 67 13 (by decide) rfl (Tp _) rfl rfl) (by kernel_rfl) ?_
    repeat (first|(with_reducible first|refine af.up ?_|refine fun (K:AK) hK=> ?_|(refine hK _ ?_;clear hK K))|simp only [go_sem]|with_reducible refine wA ?_|clear hK K)
    refine dD (ι:=Nat) 12 67 13 rfl (by decide) 68 (fun k=>[(12, .vec 10 ((ws.take k).filter (fun c=> !aR c now)).length),(14, .undef),(67, .v (.int .i64 k))]) (fun k=>[some ⟨23,1,false,[[.aE 13 (ws.map aK) ws.length]]⟩,some ⟨9,1,true,bound.map encS⟩,some ⟨40,8,false,[[.v (.string f), .v (.string t), .v (.bool h), .v (.string l), .v (.string n), .v (.int .i64 xk), .v (.string xs), .aE 3 (xl.map bn) xl.length]]⟩,some ⟨45,11,false,[[.v (.string ⟨#[]⟩), .v (.string ⟨#[]⟩), .v (.bool false), .v (.string ⟨#[]⟩), .v (.string ⟨#[]⟩), .v (.int .i64 0), .v (.string ⟨#[]⟩), .v (.slice none 0 0), .v (.slice none 0 0), .v (.slice none 0 0), .v (.slice none 0 0)]]⟩,some ⟨45,11,false,[[.v (.string f), .v (.string t), .v (.bool h), .v (.string l), .v (.string n), .v (.int .i64 xk), .v (.string xs), .aE 3 (xl.map bn) xl.length, .vec 6 (kl.filter (hasB bound)).length, .aE 1 ((now.map encS).drop bound.length) (now.length - bound.length), .vec 9 ((ws.take k).filter (fun c=>aR c now)).length]]⟩,none,some ⟨9,1,true,(kl.filter (hasB bound)).map encS⟩,none,none,some ⟨67,13,true,((ws.take k).filter (fun c=>aR c now)).map aK⟩,some ⟨67,13,true,((ws.take k).filter (fun c=> !aR c now)).map aK⟩]) (fun k=>ws.length - k) (fun k=>k<=ws.length) 0 (QJ _) ?_ ?_
    ·simp only [S0,Tx,QC,Ti,Tz]
     (refine aj ?_ ?_ ?_<;>simp only [aT,R8,Sb,SG,SH,bj,bg,AV.v.injEq,Value.int.injEq,Value.bool.injEq,Value.string.injEq,AV.vec.injEq,AV.ptr.injEq,true_or,or_true,false_or,or_false,aa.mk.injEq,forall_eq_apply_imp_iff,forall_eq,forall_eq',go_sem])
     all_goals first|rfl|exact ⟨wfD _,wfD _,rfl⟩|exact wfD _|trace_state
    ·intro j hj K hK;have eWj:=aM (k:=j) (by omega)
     by_cases hltj:j<ws.length
     ·have e2:decide ((j:Int)<(ws.length:Int))=true:=decide_eq_true (by omega);have eG:=getD_map aK ws j [] hltj;have eS1:=cB (fun c=>aR c now) ws hltj;have eS2:=cB (fun c=> !aR c now) ws hltj;have C:=kJ ws[j] now;have l1:((ws.take j).filter (fun c=>aR c now)).length<=100000:=Qz (Ty _ _) (by rw [Q4];omega);have l2:((ws.take j).filter (fun c=> !aR c now)).length<=100000:=Qz (Ty _ _) (by rw [Q4];omega);generalize (ws.take j).filter (fun c=>aR c now)=cs1 at *;generalize (ws.take j).filter (fun c=> !aR c now)=cs2 at *
      have eL1:(cs1.map aK).length=cs1.length:=by simp
      have eL2:(cs2.map aK).length=cs2.length:=by simp
      have eC1:cs1.map aK++[aK ws[j]]=(cs1++[ws[j]]).map aK:=by simp
      have eC2:cs2.map aK++[aK ws[j]]=(cs2++[ws[j]]).map aK:=by simp
      have eD1:cs1.length+1=(cs1++[ws[j]]).length:=by simp
      have eD2:cs2.length+1=(cs2++[ws[j]]).length:=by simp
      simp only [aS,aK] at C;simp only [aK] at eG eC1 eC2
      repeat (first|(with_reducible first|refine af.up ?_|refine fun (K:AK) hK=> ?_|(refine hK _ ?_;clear hK K))|simp only [go_sem,e2,eG]|with_reducible refine wA ?_|clear hK K)
      refine ae.one C ?_
      cases hrp:aR ws[j] now
      ·simp only [hrp,TA,Sr,if_false,if_true] at eS1 eS2
       repeat (first|(with_reducible first|refine af.up ?_|refine fun (K:AK) hK=> ?_|(refine hK _ ?_;clear hK K))|simp only [go_sem,hrp]|with_reducible refine wA ?_|clear hK K)
       repeat (first|(with_reducible first|refine af.up ?_|refine fun (K:AK) hK=> ?_|(refine hK _ ?_;clear hK K))|simp only [go_sem,eWj]|with_reducible refine wA ?_|clear hK K)
       refine aQ.mk (j+1) hltj (by omega) ?_;simp only [eS1,eS2,eC2,eD2]
       (refine aj ?_ ?_ ?_<;>simp only [aT,R8,Sb,SG,SH,bj,bg,AV.v.injEq,Value.int.injEq,Value.bool.injEq,Value.string.injEq,AV.vec.injEq,AV.ptr.injEq,true_or,or_true,false_or,or_false,aa.mk.injEq,forall_eq_apply_imp_iff,forall_eq,forall_eq',go_sem])
       all_goals first|rfl|exact ⟨wfD _,wfD _,rfl⟩|exact wfD _|trace_state
      ·simp only [hrp,TB,Sr,if_false,if_true] at eS1 eS2
       repeat (first|(with_reducible first|refine af.up ?_|refine fun (K:AK) hK=> ?_|(refine hK _ ?_;clear hK K))|simp only [go_sem,hrp]|with_reducible refine wA ?_|clear hK K)
       repeat (first|(with_reducible first|refine af.up ?_|refine fun (K:AK) hK=> ?_|(refine hK _ ?_;clear hK K))|simp only [go_sem,eWj]|with_reducible refine wA ?_|clear hK K)
       refine aQ.mk (j+1) hltj (by omega) ?_;simp only [eS1,eS2,eC1,eD1]
       (refine aj ?_ ?_ ?_<;>simp only [aT,R8,Sb,SG,SH,bj,bg,AV.v.injEq,Value.int.injEq,Value.bool.injEq,Value.string.injEq,AV.vec.injEq,AV.ptr.injEq,true_or,or_true,false_or,or_false,aa.mk.injEq,forall_eq_apply_imp_iff,forall_eq,forall_eq',go_sem])
       all_goals first|rfl|exact ⟨wfD _,wfD _,rfl⟩|exact wfD _|trace_state
     ·have hjn:j=ws.length:=by omega
      have e2:decide ((j:Int)<(ws.length:Int))=false:=decide_eq_false (by omega);rw [hjn] at e2;rw [hjn,SM]
      repeat ((fail_if_success (with_reducible refine br (i:=21) ?_));first|(with_reducible first|refine af.up ?_|refine fun (K:AK) hK=> ?_|(refine hK _ ?_;clear hK K))|simp only [go_sem,e2]|with_reducible refine wA ?_|clear hK K)
      refine aJ (da 12 10 rfl rfl rfl (Rv _)) (by kernel_rfl) ?_;refine aJ (cm (k:=4) (i:=0) (j:=8) (by decide) rfl (Tp _) rfl rfl rfl rfl (Rv _)) (by kernel_rfl) ?_;refine aJ (cm (k:=4) (i:=0) (j:=10) (by decide) rfl (Tp _) rfl rfl rfl rfl (Rv _)) (by kernel_rfl) ?_
      repeat (first|(with_reducible first|refine af.up ?_|refine fun (K:AK) hK=> ?_|(refine hK _ ?_;clear hK K))|simp only [go_sem]|with_reducible refine wA ?_|clear hK K)
      simp only [Tz,Tw]
      (refine ⟨?_, ?_, ?_⟩<;>simp only [bj,bg,AV.v.injEq,Value.int.injEq,Value.bool.injEq,Value.string.injEq,AV.vec.injEq,AV.ptr.injEq,true_or,or_true,false_or,or_false,aa.mk.injEq,forall_eq_apply_imp_iff,forall_eq,forall_eq',go_sem])
      all_goals first|rfl|exact ⟨wfD _,wfD _,rfl⟩|exact wfD _|trace_state
   ·rw [hL] at UN
    repeat ((fail_if_success (with_reducible refine br (i:=11) ?_));first|(with_reducible first|refine af.up ?_|refine fun (K:AK) hK=> ?_|(refine hK _ ?_;clear hK K))|simp only [go_sem,hh,hn,Go.undef]|with_reducible refine wA ?_|clear hK K)
    repeat (first|(with_reducible first|refine af.up ?_|refine fun (K:AK) hK=> ?_|(refine hK _ ?_;clear hK K))|simp only [go_sem]|with_reducible refine wA ?_|clear hK K)
    refine ae.fr [1] CL (by simp) ?_ ?_ ?_ ?_ ?_
    ·simp only [Tc,Ti,RU,SC,Rb,aa.bl,eZ]
    ·rfl
    ·rfl
    ·intro j ob hj
     match j,hj with
     | 0,hj=>cases hj;exact aD _ _
     | j+1,hj=>simp at hj
    repeat (first|(with_reducible first|refine af.up ?_|refine fun (K:AK) hK=> ?_|(refine hK _ ?_;clear hK K))|simp only [go_sem,eZ]|with_reducible refine wA ?_|clear hK K)
    refine ae.fr [8,5] UN (by simp) ?_ ?_ ?_ ?_ ?_
    ·simp only [Tc,Ti,RU,SC,Rb,aa.bl,bR,bQ,AV.bl,eZ,encS]
    ·rfl
    ·rfl
    ·intro j ob hj
     match j,hj with
     | 0,hj=>cases hj;exact aD _ _
     | 1,hj=>cases hj;rfl
     | j+2,hj=>simp at hj
    repeat ((fail_if_success (with_reducible refine br (i:=12) ?_));first|(with_reducible first|refine af.up ?_|refine fun (K:AK) hK=> ?_|(refine hK _ ?_;clear hK K))|simp only [go_sem,eZ]|with_reducible refine wA ?_|clear hK K)
    refine aJ (da 11 8 rfl rfl rfl eN) (by kernel_rfl) ?_
    repeat (first|(with_reducible first|refine af.up ?_|refine fun (K:AK) hK=> ?_|(refine hK _ ?_;clear hK K))|simp only [go_sem,r1,r3,r4,eN]|with_reducible refine wA ?_|clear hK K)
    refine ae.one CS ?_
    repeat ((fail_if_success (with_reducible refine br (i:=13) ?_));first|(with_reducible first|refine af.up ?_|refine fun (K:AK) hK=> ?_|(refine hK _ ?_;clear hK K))|simp only [go_sem]|with_reducible refine wA ?_|clear hK K)
    refine aJ (b7 (k:=4) (i:=0) (j:=10) 67 13 (by decide) rfl (Tp _) rfl rfl) (by kernel_rfl) ?_
    repeat (first|(with_reducible first|refine af.up ?_|refine fun (K:AK) hK=> ?_|(refine hK _ ?_;clear hK K))|simp only [go_sem]|with_reducible refine wA ?_|clear hK K)
    refine dD (ι:=Nat) 12 67 13 rfl (by decide) 68 (fun k=>[(12, .vec 10 ((ws.take k).filter (fun c=> !aR c now)).length),(14, .undef),(67, .v (.int .i64 k))]) (fun k=>[some ⟨23,1,false,[[.aE 13 (ws.map aK) ws.length]]⟩,some ⟨9,1,true,bound.map encS⟩,some ⟨40,8,false,[[.v (.string f), .v (.string t), .v (.bool h), .v (.string l), .v (.string n), .v (.int .i64 xk), .v (.string xs), .aE 3 (xl.map bn) xl.length]]⟩,some ⟨45,11,false,[[.v (.string ⟨#[]⟩), .v (.string ⟨#[]⟩), .v (.bool false), .v (.string ⟨#[]⟩), .v (.string ⟨#[]⟩), .v (.int .i64 0), .v (.string ⟨#[]⟩), .v (.slice none 0 0), .v (.slice none 0 0), .v (.slice none 0 0), .v (.slice none 0 0)]]⟩,some ⟨45,11,false,[[.v (.string f), .v (.string t), .v (.bool h), .v (.string l), .v (.string n), .v (.int .i64 xk), .v (.string xs), .aE 3 (xl.map bn) xl.length, .vec 6 (kl.filter (hasB bound)).length, .aE 1 ((now.map encS).drop bound.length) (now.length - bound.length), .vec 9 ((ws.take k).filter (fun c=>aR c now)).length]]⟩,none,some ⟨9,1,true,(kl.filter (hasB bound)).map encS⟩,none,none,some ⟨67,13,true,((ws.take k).filter (fun c=>aR c now)).map aK⟩,some ⟨67,13,true,((ws.take k).filter (fun c=> !aR c now)).map aK⟩]) (fun k=>ws.length - k) (fun k=>k<=ws.length) 0 (QJ _) ?_ ?_
    ·simp only [S0,Tx,QC,Ti,Tz]
     (refine aj ?_ ?_ ?_<;>simp only [aT,R8,Sb,SG,SH,bj,bg,AV.v.injEq,Value.int.injEq,Value.bool.injEq,Value.string.injEq,AV.vec.injEq,AV.ptr.injEq,true_or,or_true,false_or,or_false,aa.mk.injEq,forall_eq_apply_imp_iff,forall_eq,forall_eq',go_sem])
     all_goals first|rfl|exact ⟨wfD _,wfD _,rfl⟩|exact wfD _|trace_state
    ·intro j hj K hK;have eWj:=aM (k:=j) (by omega)
     by_cases hltj:j<ws.length
     ·have e2:decide ((j:Int)<(ws.length:Int))=true:=decide_eq_true (by omega);have eG:=getD_map aK ws j [] hltj;have eS1:=cB (fun c=>aR c now) ws hltj;have eS2:=cB (fun c=> !aR c now) ws hltj;have C:=kJ ws[j] now;have l1:((ws.take j).filter (fun c=>aR c now)).length<=100000:=Qz (Ty _ _) (by rw [Q4];omega);have l2:((ws.take j).filter (fun c=> !aR c now)).length<=100000:=Qz (Ty _ _) (by rw [Q4];omega);generalize (ws.take j).filter (fun c=>aR c now)=cs1 at *;generalize (ws.take j).filter (fun c=> !aR c now)=cs2 at *
      have eL1:(cs1.map aK).length=cs1.length:=by simp
      have eL2:(cs2.map aK).length=cs2.length:=by simp
      have eC1:cs1.map aK++[aK ws[j]]=(cs1++[ws[j]]).map aK:=by simp
      have eC2:cs2.map aK++[aK ws[j]]=(cs2++[ws[j]]).map aK:=by simp
      have eD1:cs1.length+1=(cs1++[ws[j]]).length:=by simp
      have eD2:cs2.length+1=(cs2++[ws[j]]).length:=by simp
      simp only [aS,aK] at C;simp only [aK] at eG eC1 eC2
      repeat (first|(with_reducible first|refine af.up ?_|refine fun (K:AK) hK=> ?_|(refine hK _ ?_;clear hK K))|simp only [go_sem,e2,eG]|with_reducible refine wA ?_|clear hK K)
      refine ae.one C ?_
      cases hrp:aR ws[j] now
      ·simp only [hrp,TA,Sr,if_false,if_true] at eS1 eS2
       repeat (first|(with_reducible first|refine af.up ?_|refine fun (K:AK) hK=> ?_|(refine hK _ ?_;clear hK K))|simp only [go_sem,hrp]|with_reducible refine wA ?_|clear hK K)
       repeat (first|(with_reducible first|refine af.up ?_|refine fun (K:AK) hK=> ?_|(refine hK _ ?_;clear hK K))|simp only [go_sem,eWj]|with_reducible refine wA ?_|clear hK K)
       refine aQ.mk (j+1) hltj (by omega) ?_;simp only [eS1,eS2,eC2,eD2]
       (refine aj ?_ ?_ ?_<;>simp only [aT,R8,Sb,SG,SH,bj,bg,AV.v.injEq,Value.int.injEq,Value.bool.injEq,Value.string.injEq,AV.vec.injEq,AV.ptr.injEq,true_or,or_true,false_or,or_false,aa.mk.injEq,forall_eq_apply_imp_iff,forall_eq,forall_eq',go_sem])
       all_goals first|rfl|exact ⟨wfD _,wfD _,rfl⟩|exact wfD _|trace_state
      ·simp only [hrp,TB,Sr,if_false,if_true] at eS1 eS2
       repeat (first|(with_reducible first|refine af.up ?_|refine fun (K:AK) hK=> ?_|(refine hK _ ?_;clear hK K))|simp only [go_sem,hrp]|with_reducible refine wA ?_|clear hK K)
       repeat (first|(with_reducible first|refine af.up ?_|refine fun (K:AK) hK=> ?_|(refine hK _ ?_;clear hK K))|simp only [go_sem,eWj]|with_reducible refine wA ?_|clear hK K)
       refine aQ.mk (j+1) hltj (by omega) ?_;simp only [eS1,eS2,eC1,eD1]
       (refine aj ?_ ?_ ?_<;>simp only [aT,R8,Sb,SG,SH,bj,bg,AV.v.injEq,Value.int.injEq,Value.bool.injEq,Value.string.injEq,AV.vec.injEq,AV.ptr.injEq,true_or,or_true,false_or,or_false,aa.mk.injEq,forall_eq_apply_imp_iff,forall_eq,forall_eq',go_sem])
       all_goals first|rfl|exact ⟨wfD _,wfD _,rfl⟩|exact wfD _|trace_state
     ·have hjn:j=ws.length:=by omega
      have e2:decide ((j:Int)<(ws.length:Int))=false:=decide_eq_false (by omega);rw [hjn] at e2;rw [hjn,SM]
      repeat ((fail_if_success (with_reducible refine br (i:=21) ?_));first|(with_reducible first|refine af.up ?_|refine fun (K:AK) hK=> ?_|(refine hK _ ?_;clear hK K))|simp only [go_sem,e2]|with_reducible refine wA ?_|clear hK K)
      refine aJ (da 12 10 rfl rfl rfl (Rv _)) (by kernel_rfl) ?_;refine aJ (cm (k:=4) (i:=0) (j:=8) (by decide) rfl (Tp _) rfl rfl rfl rfl (Rv _)) (by kernel_rfl) ?_;refine aJ (cm (k:=4) (i:=0) (j:=10) (by decide) rfl (Tp _) rfl rfl rfl rfl (Rv _)) (by kernel_rfl) ?_
      repeat (first|(with_reducible first|refine af.up ?_|refine fun (K:AK) hK=> ?_|(refine hK _ ?_;clear hK K))|simp only [go_sem]|with_reducible refine wA ?_|clear hK K)
      simp only [Tz,Tw]
      (refine ⟨?_, ?_, ?_⟩<;>simp only [bj,bg,AV.v.injEq,Value.int.injEq,Value.bool.injEq,Value.string.injEq,AV.vec.injEq,AV.ptr.injEq,true_or,or_true,false_or,or_false,aa.mk.injEq,forall_eq_apply_imp_iff,forall_eq,forall_eq',go_sem])
      all_goals first|rfl|exact ⟨wfD _,wfD _,rfl⟩|exact wfD _|trace_state
   ·rw [hL] at UN
    repeat ((fail_if_success (with_reducible refine br (i:=10) ?_));first|(with_reducible first|refine af.up ?_|refine fun (K:AK) hK=> ?_|(refine hK _ ?_;clear hK K))|simp only [go_sem,hh,hn,Go.undef]|with_reducible refine wA ?_|clear hK K)
    refine o9 (AS.mk (aT 90 [(1, .vec 1 bound.length),(2, .ptr 0 0 1 0 0),(3, .ptr 2 0 8 0 0),(6, .ptr 3 0 11 0 0),(7, .ptr 4 0 11 0 0),(8, .vec 5 3)]) [some ⟨23,1,false,[[.aE 13 (ws.map aK) ws.length]]⟩,some ⟨9,1,true,bound.map encS⟩,some ⟨40,8,false,[[.v (.string f), .v (.string t), .v (.bool h), .v (.string l), .v (.string n), .v (.int .i64 xk), .v (.string xs), .aE 3 (xl.map bn) xl.length]]⟩,some ⟨45,11,false,[[.v (.string ⟨#[]⟩), .v (.string ⟨#[]⟩), .v (.bool false), .v (.string ⟨#[]⟩), .v (.string ⟨#[]⟩), .v (.int .i64 0), .v (.string ⟨#[]⟩), .v (.slice none 0 0), .v (.slice none 0 0), .v (.slice none 0 0), .v (.slice none 0 0)]]⟩,some ⟨45,11,false,[[.v (.string f), .v (.string t), .v (.bool h), .v (.string l), .v (.string n), .v (.int .i64 xk), .v (.string xs), .aE 3 (xl.map bn) xl.length, .vec 6 (kl.filter (hasB bound)).length, .v (.slice none 0 0), .v (.slice none 0 0)]]⟩,some ⟨9,1,true,[[.v (.string f)],[.v (.string t)],[.v (.string n)]]⟩,some ⟨9,1,true,(kl.filter (hasB bound)).map encS⟩,some ⟨9,1,true,kl.map encS⟩] .no) (by kernel_rfl) ?_ ?_
    ·repeat (first|(with_reducible first|refine af.up ?_|refine fun (K:AK) hK=> ?_|(refine hK _ ?_;clear hK K))|simp only [go_sem]|with_reducible refine wA ?_|clear hK K)
     (refine aj ?_ ?_ ?_<;>simp only [aT,R8,Sb,SG,SH,bj,bg,AV.v.injEq,Value.int.injEq,Value.bool.injEq,Value.string.injEq,AV.vec.injEq,AV.ptr.injEq,true_or,or_true,false_or,or_false,aa.mk.injEq,forall_eq_apply_imp_iff,forall_eq,forall_eq',go_sem])
     all_goals first|rfl|trace_state
    simp only [aT,R8,Sb,SG,SH,go_sem]
    repeat ((fail_if_success (with_reducible refine br (i:=11) ?_));first|(with_reducible first|refine af.up ?_|refine fun (K:AK) hK=> ?_|(refine hK _ ?_;clear hK K))|simp only [go_sem]|with_reducible refine wA ?_|clear hK K)
    repeat (first|(with_reducible first|refine af.up ?_|refine fun (K:AK) hK=> ?_|(refine hK _ ?_;clear hK K))|simp only [go_sem]|with_reducible refine wA ?_|clear hK K)
    refine ae.fr [1] CL (by simp) ?_ ?_ ?_ ?_ ?_
    ·simp only [Tc,Ti,RU,SC,Rb,aa.bl,eZ]
    ·rfl
    ·rfl
    ·intro j ob hj
     match j,hj with
     | 0,hj=>cases hj;exact aD _ _
     | j+1,hj=>simp at hj
    repeat (first|(with_reducible first|refine af.up ?_|refine fun (K:AK) hK=> ?_|(refine hK _ ?_;clear hK K))|simp only [go_sem,eZ]|with_reducible refine wA ?_|clear hK K)
    refine ae.fr [8,5] UN (by simp) ?_ ?_ ?_ ?_ ?_
    ·simp only [Tc,Ti,RU,SC,Rb,aa.bl,bR,bQ,AV.bl,eZ,encS]
    ·rfl
    ·rfl
    ·intro j ob hj
     match j,hj with
     | 0,hj=>cases hj;exact aD _ _
     | 1,hj=>cases hj;rfl
     | j+2,hj=>simp at hj
    repeat ((fail_if_success (with_reducible refine br (i:=12) ?_));first|(with_reducible first|refine af.up ?_|refine fun (K:AK) hK=> ?_|(refine hK _ ?_;clear hK K))|simp only [go_sem,eZ]|with_reducible refine wA ?_|clear hK K)
    refine aJ (da 11 8 rfl rfl rfl eN) (by kernel_rfl) ?_
    repeat (first|(with_reducible first|refine af.up ?_|refine fun (K:AK) hK=> ?_|(refine hK _ ?_;clear hK K))|simp only [go_sem,r1,r3,r4,eN]|with_reducible refine wA ?_|clear hK K)
    refine ae.one CS ?_
    repeat ((fail_if_success (with_reducible refine br (i:=13) ?_));first|(with_reducible first|refine af.up ?_|refine fun (K:AK) hK=> ?_|(refine hK _ ?_;clear hK K))|simp only [go_sem]|with_reducible refine wA ?_|clear hK K)
    refine aJ (b7 (k:=4) (i:=0) (j:=10) 67 13 (by decide) rfl (Tp _) rfl rfl) (by kernel_rfl) ?_
    repeat (first|(with_reducible first|refine af.up ?_|refine fun (K:AK) hK=> ?_|(refine hK _ ?_;clear hK K))|simp only [go_sem]|with_reducible refine wA ?_|clear hK K)
    refine dD (ι:=Nat) 12 67 13 rfl (by decide) 68 (fun k=>[(12, .vec 10 ((ws.take k).filter (fun c=> !aR c now)).length),(14, .undef),(67, .v (.int .i64 k))]) (fun k=>[some ⟨23,1,false,[[.aE 13 (ws.map aK) ws.length]]⟩,some ⟨9,1,true,bound.map encS⟩,some ⟨40,8,false,[[.v (.string f), .v (.string t), .v (.bool h), .v (.string l), .v (.string n), .v (.int .i64 xk), .v (.string xs), .aE 3 (xl.map bn) xl.length]]⟩,some ⟨45,11,false,[[.v (.string ⟨#[]⟩), .v (.string ⟨#[]⟩), .v (.bool false), .v (.string ⟨#[]⟩), .v (.string ⟨#[]⟩), .v (.int .i64 0), .v (.string ⟨#[]⟩), .v (.slice none 0 0), .v (.slice none 0 0), .v (.slice none 0 0), .v (.slice none 0 0)]]⟩,some ⟨45,11,false,[[.v (.string f), .v (.string t), .v (.bool h), .v (.string l), .v (.string n), .v (.int .i64 xk), .v (.string xs), .aE 3 (xl.map bn) xl.length, .vec 6 (kl.filter (hasB bound)).length, .aE 1 ((now.map encS).drop bound.length) (now.length - bound.length), .vec 9 ((ws.take k).filter (fun c=>aR c now)).length]]⟩,none,some ⟨9,1,true,(kl.filter (hasB bound)).map encS⟩,none,none,some ⟨67,13,true,((ws.take k).filter (fun c=>aR c now)).map aK⟩,some ⟨67,13,true,((ws.take k).filter (fun c=> !aR c now)).map aK⟩]) (fun k=>ws.length - k) (fun k=>k<=ws.length) 0 (QJ _) ?_ ?_
    ·simp only [S0,Tx,QC,Ti,Tz]
     (refine aj ?_ ?_ ?_<;>simp only [aT,R8,Sb,SG,SH,bj,bg,AV.v.injEq,Value.int.injEq,Value.bool.injEq,Value.string.injEq,AV.vec.injEq,AV.ptr.injEq,true_or,or_true,false_or,or_false,aa.mk.injEq,forall_eq_apply_imp_iff,forall_eq,forall_eq',go_sem])
     all_goals first|rfl|exact ⟨wfD _,wfD _,rfl⟩|exact wfD _|trace_state
    ·intro j hj K hK;have eWj:=aM (k:=j) (by omega)
     by_cases hltj:j<ws.length
     ·have e2:decide ((j:Int)<(ws.length:Int))=true:=decide_eq_true (by omega);have eG:=getD_map aK ws j [] hltj;have eS1:=cB (fun c=>aR c now) ws hltj;have eS2:=cB (fun c=> !aR c now) ws hltj;have C:=kJ ws[j] now;have l1:((ws.take j).filter (fun c=>aR c now)).length<=100000:=Qz (Ty _ _) (by rw [Q4];omega);have l2:((ws.take j).filter (fun c=> !aR c now)).length<=100000:=Qz (Ty _ _) (by rw [Q4];omega);generalize (ws.take j).filter (fun c=>aR c now)=cs1 at *;generalize (ws.take j).filter (fun c=> !aR c now)=cs2 at *
      have eL1:(cs1.map aK).length=cs1.length:=by simp
      have eL2:(cs2.map aK).length=cs2.length:=by simp
      have eC1:cs1.map aK++[aK ws[j]]=(cs1++[ws[j]]).map aK:=by simp
      have eC2:cs2.map aK++[aK ws[j]]=(cs2++[ws[j]]).map aK:=by simp
      have eD1:cs1.length+1=(cs1++[ws[j]]).length:=by simp
      have eD2:cs2.length+1=(cs2++[ws[j]]).length:=by simp
      simp only [aS,aK] at C;simp only [aK] at eG eC1 eC2
      repeat (first|(with_reducible first|refine af.up ?_|refine fun (K:AK) hK=> ?_|(refine hK _ ?_;clear hK K))|simp only [go_sem,e2,eG]|with_reducible refine wA ?_|clear hK K)
      refine ae.one C ?_
      cases hrp:aR ws[j] now
      ·simp only [hrp,TA,Sr,if_false,if_true] at eS1 eS2
       repeat (first|(with_reducible first|refine af.up ?_|refine fun (K:AK) hK=> ?_|(refine hK _ ?_;clear hK K))|simp only [go_sem,hrp]|with_reducible refine wA ?_|clear hK K)
       repeat (first|(with_reducible first|refine af.up ?_|refine fun (K:AK) hK=> ?_|(refine hK _ ?_;clear hK K))|simp only [go_sem,eWj]|with_reducible refine wA ?_|clear hK K)
       refine aQ.mk (j+1) hltj (by omega) ?_;simp only [eS1,eS2,eC2,eD2]
       (refine aj ?_ ?_ ?_<;>simp only [aT,R8,Sb,SG,SH,bj,bg,AV.v.injEq,Value.int.injEq,Value.bool.injEq,Value.string.injEq,AV.vec.injEq,AV.ptr.injEq,true_or,or_true,false_or,or_false,aa.mk.injEq,forall_eq_apply_imp_iff,forall_eq,forall_eq',go_sem])
       all_goals first|rfl|exact ⟨wfD _,wfD _,rfl⟩|exact wfD _|trace_state
      ·simp only [hrp,TB,Sr,if_false,if_true] at eS1 eS2
       repeat (first|(with_reducible first|refine af.up ?_|refine fun (K:AK) hK=> ?_|(refine hK _ ?_;clear hK K))|simp only [go_sem,hrp]|with_reducible refine wA ?_|clear hK K)
       repeat (first|(with_reducible first|refine af.up ?_|refine fun (K:AK) hK=> ?_|(refine hK _ ?_;clear hK K))|simp only [go_sem,eWj]|with_reducible refine wA ?_|clear hK K)
       refine aQ.mk (j+1) hltj (by omega) ?_;simp only [eS1,eS2,eC1,eD1]
       (refine aj ?_ ?_ ?_<;>simp only [aT,R8,Sb,SG,SH,bj,bg,AV.v.injEq,Value.int.injEq,Value.bool.injEq,Value.string.injEq,AV.vec.injEq,AV.ptr.injEq,true_or,or_true,false_or,or_false,aa.mk.injEq,forall_eq_apply_imp_iff,forall_eq,forall_eq',go_sem])
       all_goals first|rfl|exact ⟨wfD _,wfD _,rfl⟩|exact wfD _|trace_state
     ·have hjn:j=ws.length:=by omega
      have e2:decide ((j:Int)<(ws.length:Int))=false:=decide_eq_false (by omega);rw [hjn] at e2;rw [hjn,SM]
      repeat ((fail_if_success (with_reducible refine br (i:=21) ?_));first|(with_reducible first|refine af.up ?_|refine fun (K:AK) hK=> ?_|(refine hK _ ?_;clear hK K))|simp only [go_sem,e2]|with_reducible refine wA ?_|clear hK K)
      refine aJ (da 12 10 rfl rfl rfl (Rv _)) (by kernel_rfl) ?_;refine aJ (cm (k:=4) (i:=0) (j:=8) (by decide) rfl (Tp _) rfl rfl rfl rfl (Rv _)) (by kernel_rfl) ?_;refine aJ (cm (k:=4) (i:=0) (j:=10) (by decide) rfl (Tp _) rfl rfl rfl rfl (Rv _)) (by kernel_rfl) ?_
      repeat (first|(with_reducible first|refine af.up ?_|refine fun (K:AK) hK=> ?_|(refine hK _ ?_;clear hK K))|simp only [go_sem]|with_reducible refine wA ?_|clear hK K)
      simp only [Tz,Tw]
      (refine ⟨?_, ?_, ?_⟩<;>simp only [bj,bg,AV.v.injEq,Value.int.injEq,Value.bool.injEq,Value.string.injEq,AV.vec.injEq,AV.ptr.injEq,true_or,or_true,false_or,or_false,aa.mk.injEq,forall_eq_apply_imp_iff,forall_eq,forall_eq',go_sem])
      all_goals first|rfl|exact ⟨wfD _,wfD _,rfl⟩|exact wfD _|trace_state
end Go.Proofs.YtjcobjgjjlahdaaGreatDoor
