/- texts of one claim, one behind the other. -/
import Derived.Test.YtlhhccmopfamhaaGreatDoorWBest
import Derived.Test.YtlhhccmopfamhaaGreatDoorWAbsCut
import Derived.Test.YtlhhccmopfamhaaGreatDoorWHeapP
import Derived.Test.YtlhhccmopfamhaaGreatDoorWRelG
import Derived.Lib.ItoaNum
set_option linter.unusedSimpArgs false
set_option linter.unusedVariables false
set_option maxRecDepth 100000
set_option maxHeartbeats 16000000
open Bool renaming and_self -> UM, and_true -> Um, true_and -> Us, false_eq_true -> Uw
open List renaming getD_eq_getElem?_getD -> T3, map_set -> Vl, length_cons -> Tc, length_nil -> S6, replicate_succ -> UN, replicate_zero -> UO, cons_append -> UP, nil_append -> UQ, length_pos_iff -> Vo, foldl_cons -> UG, foldl_nil -> UH, length_set -> Vp, map_cons -> Vd, map_nil -> Vq, getElem?_cons_zero -> Ud, getElem?_cons_succ -> UD, pairwise_iff_getElem -> Vr, length_map -> T1, getElem_map -> Vs, mem_range -> Uj, mem_singleton -> U7, mem_append -> U6, foldl_append -> Vt, mem_cons_of_mem -> T8, append_assoc -> TB, findIdx?_eq_none_iff -> Uu, findIdx?_eq_some_iff_getElem -> Ut, map_append -> Vu, nodup_append -> Vv, length_append -> Tb, length_singleton -> Vx, getElem?_append_left -> S8, getElem?_append_right -> TD, getElem?_eq_some_iff -> S7
open Nat renaming lt_add_one -> Vm, zero_lt_one -> Vn, le_refl -> SY, lt_or_ge -> S9
open Option renaming map_some -> TG, getD_some -> Vy
open List.cons renaming injEq -> Vi
open Option.some renaming injEq -> Ti
namespace Go.Proofs.YtlhhccmopfamhaaGreatDoor
open Go.RowKit
def l5 (l:List de):List (Option aa):=[some ⟨162,2,false,[[.vec 1 l.length, .v (.bool true)]]⟩,some ⟨115,2,true,l.map aC⟩]
theorem aw (n:Nat) (l:List de):bQ n (l.map aC)=true:=bg _ (fun _=>rfl) _
theorem gb {l:List de} {j:Nat} (h:j<l.length):(l.map aC).getD j []=[.v (.int .i64 (ax l j).1), .v (.int .i64 (ax l j).2)]:=by
 rw [getD_map aC l j [] h,ko h];rfl
theorem Fm {l:List de} {k u:Nat} (hk:k<l.length) (hu:u<l.length) (hne:k≠u) (X:List AV):((l.map aC).set k X).getD u []=[.v (.int .i64 (ax l u).1), .v (.int .i64 (ax l u).2)]:=by
 rw [<-gb hu,T3,T3,List.getElem?_set_ne hne]
theorem xY (l:List de) (k u:Nat):((l.map aC).set k [.v (.int .i64 (ax l u).1), .v (.int .i64 (ax l u).2)]).set u [.v (.int .i64 (ax l k).1), .v (.int .i64 (ax l k).2)]=(swp l k u).map aC:=by
 rw [swp,Vl,Vl];rfl
theorem zJ (a:AV) (b:Bool) (ha:a.wf 0=true):af Tryz.prog 92 [.vp [a, .v (.bool b)]] (.v (.bool b)):=by
 (refine af.enter Tryz.func92 rfl (by kernel_rfl) (by kernel_rfl) rfl (by simp only [go_sem,ba,AV.wf,UM,Um,Us,ha]) (by simp only [go_sem,ba,AV.wf,dc,UM,Um,Us,ha]) ?_;simp only [Tryz.ntmps92,Tryz.results92,Tc,S6,Nat.reduceAdd,Nat.reduceSub,UN,UO,UP,UQ])
 repeat (first|(with_reducible first|refine ag.up ?_|refine fun (K:AK) hK=> ?_|(refine hK _ ?_;clear hK K))|simp only [go_sem,Bool.not_false]|clear hK K)
theorem KY (l:List de):af Tryz.prog 132 [.vp [.aI 2 (l.map aC) l.length, .v (.bool true)]] (.v (.int .i64 l.length)):=by
 have M:=zJ (.aI 2 (l.map aC) l.length) true (by simp only [AV.wf,aw])
 (refine af.enter Tryz.func132 rfl (by kernel_rfl) (by kernel_rfl) rfl (by simp only [go_sem,ba,AV.wf,UM,Um,Us,aw]) (by simp only [go_sem,ba,AV.wf,dc,UM,Um,Us,aw]) ?_;simp only [Tryz.ntmps132,Tryz.results132,Tc,S6,Nat.reduceAdd,Nat.reduceSub,UN,UO,UP,UQ])
 repeat (first|(with_reducible first|refine ag.up ?_|refine fun (K:AK) hK=> ?_|(refine hK _ ?_;clear hK K))|simp only [go_sem]|clear hK K)
 refine ab.one M ?_
 repeat (first|(with_reducible first|refine ag.up ?_|refine fun (K:AK) hK=> ?_|(refine hK _ ?_;clear hK K))|simp only [go_sem]|clear hK K)
theorem A4 (l:List de) (hl:l.length<=1000000):aR Tryz.prog 94 [.ptr 0 0 2 0 0] (l5 l) (.ct [.agg (aC (ax l 0)), .v (.bool (decide (l≠[])))]) (l5 l):=by
 have M:=KY l;simp only [l5,aC]
 by_cases h:l=[]
 ·subst h;have d0:(((0:Nat):Int)==0)=true:=rfl
  (refine aR.enter Tryz.func94 rfl (by kernel_rfl) (by kernel_rfl) rfl ?_;simp only [Tryz.ntmps94,Tryz.results94,Tc,S6,Nat.reduceAdd,Nat.reduceSub,UN,UO,UP,UQ])
  repeat (first|(with_reducible first|refine ag.up ?_|refine fun (K:AK) hK=> ?_|(refine hK _ ?_;clear hK K))|simp only [go_sem]|with_reducible refine wA ?_|clear hK K)
  refine ab.E9 M 8 rfl (by simp only [go_sem,Nat.reduceLT,Nat.reduceLeDiff,Nat.reduceEqDiff,Vm,Vn,and_self,aw]) rfl ?_
  repeat (first|(with_reducible first|refine ag.up ?_|refine fun (K:AK) hK=> ?_|(refine hK _ ?_;clear hK K))|simp only [go_sem,d0]|with_reducible refine wA ?_|clear hK K)
  (refine ⟨?_, ?_, ?_⟩<;>simp only [bd,bj,AV.v.injEq,Value.int.injEq,Value.bool.injEq,Value.string.injEq,AV.vec.injEq,AV.ptr.injEq,true_or,or_true,false_or,or_false,aa.mk.injEq,forall_eq_apply_imp_iff,forall_eq,forall_eq',go_sem])
  all_goals first|rfl|trace_state
 ·have hpos:0<l.length:=Vo.2 h
  have e1:((l.length:Int)==0)=false:=by rw [beq_eq_false_iff_ne];omega
  have e2:=gb hpos;rw [show decide (l≠[])=true from decide_eq_true h]
  (refine aR.enter Tryz.func94 rfl (by kernel_rfl) (by kernel_rfl) rfl ?_;simp only [Tryz.ntmps94,Tryz.results94,Tc,S6,Nat.reduceAdd,Nat.reduceSub,UN,UO,UP,UQ])
  repeat (first|(with_reducible first|refine ag.up ?_|refine fun (K:AK) hK=> ?_|(refine hK _ ?_;clear hK K))|simp only [go_sem]|with_reducible refine wA ?_|clear hK K)
  refine ab.E9 M 8 rfl (by simp only [go_sem,Nat.reduceLT,Nat.reduceLeDiff,Nat.reduceEqDiff,Vm,Vn,and_self,aw]) rfl ?_
  repeat (first|(with_reducible first|refine ag.up ?_|refine fun (K:AK) hK=> ?_|(refine hK _ ?_;clear hK K))|simp only [go_sem,e1,e2]|with_reducible refine wA ?_|clear hK K)
  (refine ⟨?_, ?_, ?_⟩<;>simp only [bd,bj,AV.v.injEq,Value.int.injEq,Value.bool.injEq,Value.string.injEq,AV.vec.injEq,AV.ptr.injEq,true_or,or_true,false_or,or_false,aa.mk.injEq,forall_eq_apply_imp_iff,forall_eq,forall_eq',go_sem])
  all_goals first|rfl|exact aw _ _|trace_state
theorem Ls (l:List de) (k:Nat) (hk:k<l.length) (hl:l.length<=1000000):aR Tryz.prog 93 [.ptr 0 0 2 0 0, .v (.int .i64 k)] (l5 l) (.ct []) (l5 (kE k l k)):=by
 simp only [l5];generalize hR:kE k l k=R
 have hRl:R.length=l.length:=by rw [<-hR];exact (me k l k hk).length_eq
 (refine aR.enter Tryz.func93 rfl (by kernel_rfl) (by kernel_rfl) rfl ?_;simp only [Tryz.ntmps93,Tryz.results93,Tc,S6,Nat.reduceAdd,Nat.reduceSub,UN,UO,UP,UQ])
 repeat (first|(with_reducible first|refine ag.up ?_|refine fun (K:AK) hK=> ?_|refine wD ?_|refine ah (by decide) ?_|refine ar (by decide) ?_|(refine hK _ ?_;clear hK K))|simp only [go_sem]|with_reducible refine wA ?_|(refine aW rfl ?_)|clear hK K)
 refine bW (ι:=List de×Nat×Nat) 2 (fun x=>[(1, .v (.int .i64 (x.2.1:Nat)))]) (fun x=>[some ⟨162,2,false,[[.vec 1 x.1.length, .v (.bool true)]]⟩,some ⟨115,2,true,x.1.map aC⟩]) (fun x=>x.2.1) (fun x=>x.1.length=l.length∧x.2.1<x.1.length∧x.2.1<=x.2.2∧kE x.2.2 x.1 x.2.1=R) (l,k,k) ⟨rfl,hk,Nat.le_refl _,hR⟩ ?_ ?_
 ·(refine aq ?_ ?_ ?_<;>simp only [aG,UG,UH,UN,UO,bd,bj,AV.v.injEq,Value.int.injEq,Value.bool.injEq,Value.string.injEq,AV.vec.injEq,AV.ptr.injEq,true_or,or_true,false_or,or_false,aa.mk.injEq,forall_eq_apply_imp_iff,forall_eq,forall_eq',go_sem])
  all_goals first|rfl|exact aw _ _|trace_state
 ·rintro ⟨cur,j,f⟩ ⟨hcl,hjl,hjf,hcR⟩ K hK;simp only at hcl hjl hjf hcR ⊢
  have eN:(cur.map aC).length=cur.length:=by simp
  by_cases hj0:j=0
  ·subst hj0
   have e0:R=cur:=by rw [<-hcR];cases f<;>simp [kE]
   have d0:decide ((0:Int)<((0:Nat):Int))=false:=by decide
   rw [e0]
   repeat (first|(with_reducible first|refine ag.up ?_|refine fun (K:AK) hK=> ?_|refine wD ?_|refine ah (by decide) ?_|refine ar (by decide) ?_|(refine hK _ ?_;clear hK K))|simp only [go_sem,d0]|with_reducible refine wA ?_|(refine aW rfl ?_)|clear hK K)
   (refine ⟨?_, ?_, ?_⟩<;>simp only [bd,bj,AV.v.injEq,Value.int.injEq,Value.bool.injEq,Value.string.injEq,AV.vec.injEq,AV.ptr.injEq,true_or,or_true,false_or,or_false,aa.mk.injEq,forall_eq_apply_imp_iff,forall_eq,forall_eq',go_sem])
   all_goals first|rfl|exact aw _ _|trace_state
  ·have d0:decide ((0:Int)<(j:Int))=true:=decide_eq_true (by omega)
   have w1:IntKind.i64.wrap ((j:Int) - 1)=((j - 1:Nat):Int):=by rw [dQ (by omega) (by omega)];omega
   have w2:IntKind.i64.wrap (((j - 1:Nat):Int).tdiv 2)=(((j - 1) / 2:Nat):Int):=by
    rw [show (((j - 1:Nat):Int).tdiv 2)=(((j - 1) / 2:Nat):Int) from rfl,dQ (by omega) (by omega)]
   obtain ⟨n,rfl⟩: ∃n,j=n+1:=⟨j - 1,by omega⟩
   have hul:(n+1 - 1) / 2<cur.length:=by omega
   have hne:n+1≠(n+1 - 1) / 2:=by omega
   have e1:=gb hjl;have e2:=gb hul;have e3:=Fm hjl hul hne [.v (.int .i64 (ax cur ((n+1 - 1) / 2)).1), .v (.int .i64 (ax cur ((n+1 - 1) / 2)).2)];have e4:=xY cur (n+1) ((n+1 - 1) / 2);have C:=u0 (ax cur (n+1)) (ax cur ((n+1 - 1) / 2));have hge:=KZ (ax cur (n+1)) (ax cur ((n+1 - 1) / 2));obtain ⟨f,rfl⟩: ∃g,f=g+1:=⟨f - 1,by omega⟩;rw [kE,if_neg (Nat.succ_ne_zero n)] at hcR;have hsl:=ff cur (n+1) ((n+1 - 1) / 2);simp only [aC] at C
   have huf:(n+1 - 1) / 2<=f:=by omega
   have hun:(n+1 - 1) / 2<n+1:=by omega
   generalize (n+1 - 1) / 2=u at *
   cases hb:dx (ax cur (n+1)) (ax cur u)
   ·rw [hb] at hge hcR;simp only [Bool.not_false,Uw,if_false] at hge hcR
    repeat (first|(with_reducible first|refine ag.up ?_|refine fun (K:AK) hK=> ?_|refine wD ?_|refine ah (by decide) ?_|refine ar (by decide) ?_|(refine hK _ ?_;clear hK K))|simp only [go_sem,d0,w1,w2,e1,e2,eN]|with_reducible refine wA ?_|(refine aW rfl ?_)|clear hK K)
    refine bt.one C ?_
    repeat (first|(with_reducible first|refine ag.up ?_|refine fun (K:AK) hK=> ?_|refine wD ?_|refine ah (by decide) ?_|refine ar (by decide) ?_|(refine hK _ ?_;clear hK K))|simp only [go_sem,hge]|with_reducible refine wA ?_|(refine aW rfl ?_)|clear hK K)
    rw [<-hcR]
    (refine ⟨?_, ?_, ?_⟩<;>simp only [bd,bj,AV.v.injEq,Value.int.injEq,Value.bool.injEq,Value.string.injEq,AV.vec.injEq,AV.ptr.injEq,true_or,or_true,false_or,or_false,aa.mk.injEq,forall_eq_apply_imp_iff,forall_eq,forall_eq',go_sem])
    all_goals first|rfl|exact aw _ _|trace_state
   ·rw [hb] at hge hcR;simp only [Bool.not_true,if_true] at hge hcR
    repeat (first|(with_reducible first|refine ag.up ?_|refine fun (K:AK) hK=> ?_|refine wD ?_|refine ah (by decide) ?_|refine ar (by decide) ?_|(refine hK _ ?_;clear hK K))|simp only [go_sem,d0,w1,w2,e1,e2,eN]|with_reducible refine wA ?_|(refine aW rfl ?_)|clear hK K)
    refine bt.one C ?_
    repeat ((fail_if_success (with_reducible refine b5 (i:=3) ?_));first|(with_reducible first|refine ag.up ?_|refine fun (K:AK) hK=> ?_|refine ah (by decide) ?_|refine ar (by decide) ?_|(refine hK _ ?_;clear hK K))|simp only [go_sem,hge]|with_reducible refine wA ?_|(refine aW rfl ?_)|clear hK K)
    refine du [25,27] [(9,0)] (by decide+kernel) (by kernel_rfl) ?_
    repeat (first|(with_reducible first|refine ag.up ?_|refine fun (K:AK) hK=> ?_|refine ah (by decide) ?_|refine ar (by decide) ?_|(refine hK _ ?_;clear hK K))|simp only [go_sem,e1,e2,e3,eN,Vp]|with_reducible refine wA ?_|(refine aW rfl ?_)|clear hK K)
    repeat (first|(with_reducible first|refine ag.up ?_|refine fun (K:AK) hK=> ?_|refine wD ?_|refine ah (by decide) ?_|refine ar (by decide) ?_|(refine hK _ ?_;clear hK K))|simp only [go_sem,e4]|with_reducible refine wA ?_|(refine aW rfl ?_)|clear hK K)
    refine aP.mk (swp cur (n+1) u,u,f) ⟨by rw [hsl];exact hcl,by rw [hsl];exact hul,huf,hcR⟩ hun ?_;simp only [hsl]
    (refine aq ?_ ?_ ?_<;>simp only [aG,UG,UH,UN,UO,bd,bj,AV.v.injEq,Value.int.injEq,Value.bool.injEq,Value.string.injEq,AV.vec.injEq,AV.ptr.injEq,true_or,or_true,false_or,or_false,aa.mk.injEq,forall_eq_apply_imp_iff,forall_eq,forall_eq',go_sem])
    all_goals first|rfl|exact aw _ _|trace_state
theorem Ln (l:List de) (x:de) (hl:l.length<1000000):aR Tryz.prog 57 [.ptr 0 0 2 0 0, .aI 2 [aC x] 1] (l5 l) (.v (.int .i64 0)) (l5 (iP l x)):=by
 have M:=zJ (.aI 2 (l.map aC) l.length) true (by simp only [AV.wf,aw]);have RS:=Ls (l++[x]) l.length (by simp) (by simp;omega)
 have hpl:(iP l x).length=l.length+1:=by have:=(fA l x).length_eq;simpa using this
 have e5:l.map aC++[aC x]=(l++[x]).map aC:=by simp
 have e6:l.length+1=(l++[x]).length:=by simp
 have eN:(l.map aC).length=l.length:=by simp
 have w1:IntKind.i64.wrap (((l.length+1:Nat):Int) - 1)=(l.length:Int):=by rw [dQ (by omega) (by omega)];omega
 have d0:decide (((0:Nat):Int)<((1:Nat):Int))=true:=by decide
 have d1:decide (((1:Nat):Int)<((1:Nat):Int))=false:=by decide
 have w0:=aD (k:=0) (by omega);have eZ: ∀f l,bI f (List.map aC l)=List.map aC l:=fun f l=>bc _ _ (aw _ _);rw [<-iP,l5, <- e5, <- e6] at RS
 have eZa: ∀f,bI f (l.map aC++[aC x])=l.map aC++[aC x]:=fun f=>by rw [e5];exact bc _ _ (aw _ _)
 have eWa:bQ 2 (l.map aC++[aC x])=true:=by rw [e5];exact aw _ _
 clear e5 e6;simp only [l5,aC] at *
 (refine aR.enter Tryz.func57 rfl (by kernel_rfl) (by kernel_rfl) rfl ?_;simp only [Tryz.ntmps57,Tryz.results57,Tc,S6,Nat.reduceAdd,Nat.reduceSub,UN,UO,UP,UQ])
 repeat (first|(with_reducible first|refine ag.up ?_|refine fun (K:AK) hK=> ?_|(refine hK _ ?_;clear hK K))|simp only [go_sem]|with_reducible refine wA ?_|clear hK K)
 refine ab.E9 M 8 rfl (by simp only [go_sem,Nat.reduceLT,Nat.reduceLeDiff,Nat.reduceEqDiff,Vm,Vn,and_self,aw]) rfl ?_
 repeat (first|(with_reducible first|refine ag.up ?_|refine fun (K:AK) hK=> ?_|(refine hK _ ?_;clear hK K))|simp only [go_sem]|with_reducible refine wA ?_|clear hK K)
 refine bW (ι:=Bool) 13 (fun b=>[(6, .undef),(12, .v (.int .i64 ((if b then 1 else 0:Nat):Int)))]) (fun b=>if b then [some ⟨162,2,false,[[.vec 1 (iP l x).length, .v (.bool true)]]⟩,some ⟨115,2,true,(iP l x).map aC⟩] else [some ⟨162,2,false,[[.vec 1 l.length, .v (.bool true)]]⟩,some ⟨115,2,true,l.map aC⟩]) (fun b=>if b then 0 else 1) (fun _=>True) false trivial ?_ ?_
 ·simp only [Uw,if_false]
  (refine aq ?_ ?_ ?_<;>simp only [aG,UG,UH,UN,UO,bd,bj,AV.v.injEq,Value.int.injEq,Value.bool.injEq,Value.string.injEq,AV.vec.injEq,AV.ptr.injEq,true_or,or_true,false_or,or_false,aa.mk.injEq,forall_eq_apply_imp_iff,forall_eq,forall_eq',go_sem])
  all_goals first|rfl|exact aw _ _|trace_state
 ·rintro b _ K hK
  cases b
  ·simp only [Uw,if_false]
   repeat ((fail_if_success (with_reducible refine b5 (i:=6) ?_));first|(with_reducible first|refine ag.up ?_|refine fun (K:AK) hK=> ?_|(refine hK _ ?_;clear hK K))|simp only [go_sem,d0]|with_reducible refine wA ?_|clear hK K)
   (refine kO 7 16 0 (by kernel_rfl) (by decide+kernel) (by kernel_rfl) ?_;simp only [fx,Vd,Vq,List.push_toArray,UP,UQ,List.drop_succ_cons,List.drop_zero,List.take_succ_cons,List.take_zero])
   repeat (first|(with_reducible first|refine ag.up ?_|refine fun (K:AK) hK=> ?_|(refine hK _ ?_;clear hK K))|simp only [go_sem,eN]|with_reducible refine wA ?_|clear hK K)
   repeat (first|(with_reducible first|refine ag.up ?_|refine fun (K:AK) hK=> ?_|(refine hK _ ?_;clear hK K))|simp only [go_sem,w1]|with_reducible refine wA ?_|clear hK K)
   refine ab.fr [0,1] RS (by simp) ?_ ?_ ?_ ?_ ?_
   ·simp only [Vd,Vq,Ud,UD,TG,aa.aO,bI,bo,AV.aO,eZa];rfl
   ·rfl
   ·rfl
   ·intro j ob hj
    match j,hj with
    | 0,hj=>cases hj;rfl
    | 1,hj=>cases hj;exact eWa
    | j+2,hj=>simp at hj
   repeat (first|(with_reducible first|refine ag.up ?_|refine fun (K:AK) hK=> ?_|(refine hK _ ?_;clear hK K))|simp only [go_sem,eZ,w0]|with_reducible refine wA ?_|clear hK K)
   refine aP.mk true trivial (by simp) ?_;simp only [if_true]
   (refine aq ?_ ?_ ?_<;>simp only [aG,UG,UH,UN,UO,bd,bj,AV.v.injEq,Value.int.injEq,Value.bool.injEq,Value.string.injEq,AV.vec.injEq,AV.ptr.injEq,true_or,or_true,false_or,or_false,aa.mk.injEq,forall_eq_apply_imp_iff,forall_eq,forall_eq',go_sem])
   all_goals first|rfl|exact aw _ _|trace_state
  ·simp only [if_true]
   repeat (first|(with_reducible first|refine ag.up ?_|refine fun (K:AK) hK=> ?_|(refine hK _ ?_;clear hK K))|simp only [go_sem,d1]|with_reducible refine wA ?_|clear hK K)
   (refine ⟨?_, ?_, ?_⟩<;>simp only [bd,bj,AV.v.injEq,Value.int.injEq,Value.bool.injEq,Value.string.injEq,AV.vec.injEq,AV.ptr.injEq,true_or,or_true,false_or,or_false,aa.mk.injEq,forall_eq_apply_imp_iff,forall_eq,forall_eq',go_sem])
   all_goals first|rfl|exact aw _ _|trace_state
def l6 (l:List de) (k:Nat):Nat->Nat
 | 0=>k
 | i+1=>if 2 * k+1+i<l.length∧dx (ax l (2 * k+1+i)) (ax l (l6 l k i))=true then 2 * k+1+i else l6 l k i
theorem Fw (l:List de) (k:Nat):l6 l k 2=cD l k:=rfl
theorem uL {l:List de} {k:Nat} (h:k<l.length): ∀i,l6 l k i<l.length
 | 0=>h
 | i+1=>by
  rw [l6]
  split
  ·rename_i q;exact q.1
  ·exact uL h i
theorem LA (l:List de) (hl:l.length<=1000000):aR Tryz.prog 95 [.ptr 0 0 2 0 0] (l5 l) (.ct []) (l5 (iQ l.length l 0)):=by
 simp only [l5];generalize hR:iQ l.length l 0=R
 have hRl:R.length=l.length:=by
  rw [<-hR]
  by_cases h:l=[]
  ·subst h;rfl
  ·exact (mg _ l 0 (Vo.2 h)).length_eq
 (refine aR.enter Tryz.func95 rfl (by kernel_rfl) (by kernel_rfl) rfl ?_;simp only [Tryz.ntmps95,Tryz.results95,Tc,S6,Nat.reduceAdd,Nat.reduceSub,UN,UO,UP,UQ])
 repeat (first|(with_reducible first|refine ag.up ?_|refine fun (K:AK) hK=> ?_|refine wD ?_|refine ah (by decide) ?_|refine ar (by decide) ?_|(refine hK _ ?_;clear hK K))|simp only [go_sem]|with_reducible refine wA ?_|(refine aW rfl ?_)|clear hK K)
 refine bW (ι:=List de×Nat×Nat) 2 (fun x=>[(2, .v (.int .i64 (x.2.1:Nat)))]) (fun x=>[some ⟨162,2,false,[[.vec 1 x.1.length, .v (.bool true)]]⟩,some ⟨115,2,true,x.1.map aC⟩]) (fun x=>x.2.2) (fun x=>x.1.length=l.length∧(x.2.1<x.1.length∨x.1.length=0∧x.2.1=0)∧x.1.length<=x.2.2+x.2.1∧iQ x.2.2 x.1 x.2.1=R) (l,0,l.length) ⟨rfl,by rcases Nat.eq_zero_or_pos l.length with h|h;exact .inr ⟨h,rfl⟩;exact .inl h,by simp,hR⟩ ?_ ?_
 ·(refine aq ?_ ?_ ?_<;>simp only [aG,UG,UH,UN,UO,bd,bj,AV.v.injEq,Value.int.injEq,Value.bool.injEq,Value.string.injEq,AV.vec.injEq,AV.ptr.injEq,true_or,or_true,false_or,or_false,aa.mk.injEq,forall_eq_apply_imp_iff,forall_eq,forall_eq',go_sem])
  all_goals first|rfl|exact aw _ _|trace_state
 ·rintro ⟨cur,j,f⟩ ⟨hcl,hjl,hjf,hcR⟩ K hK;simp only at hcl hjl hjf hcR ⊢
  have hj:j<=1000000:=by omega
  have w1:IntKind.i64.wrap (2 * (j:Int))=((2 * j:Nat):Int):=by rw [dQ (by omega) (by omega)];omega
  have w2:IntKind.i64.wrap (((2 * j:Nat):Int)+1)=((2 * j+1:Nat):Int):=by rw [dQ (by omega) (by omega)];omega
  have w3:IntKind.i64.wrap (((2 * j:Nat):Int)+2)=((2 * j+2:Nat):Int):=by rw [dQ (by omega) (by omega)];omega
  have eN:(cur.map aC).length=cur.length:=by simp
  repeat ((fail_if_success (with_reducible refine b5 (i:=4) ?_));first|(with_reducible first|refine ag.up ?_|refine fun (K:AK) hK=> ?_|refine ah (by decide) ?_|refine ar (by decide) ?_|(refine hK _ ?_;clear hK K))|simp only [go_sem,w1,w2,w3]|with_reducible refine wA ?_|(refine aW rfl ?_)|clear hK K)
  refine cI 3 (fun i:Nat=>[(3, .v (.int .i64 (l6 cur j i:Nat))),(13, .agg [.v (.int .i64 ((2 * j+1:Nat):Int)), .v (.int .i64 ((2 * j+2:Nat):Int))]),(14, .v (.int .i64 (i:Nat)))]) (fun i=>2 - i) (fun i=>i<=2) 0 (by omega) ?_ ?_
  ·rw [show l6 cur j 0=j from rfl]
   (refine aq ?_ ?_ ?_<;>simp only [aG,UG,UH,UN,UO,bd,bj,AV.v.injEq,Value.int.injEq,Value.bool.injEq,Value.string.injEq,AV.vec.injEq,AV.ptr.injEq,true_or,or_true,false_or,or_false,aa.mk.injEq,forall_eq_apply_imp_iff,forall_eq,forall_eq',go_sem])
   all_goals first|rfl|exact aw _ _|exact ⟨rfl,rfl⟩|trace_state
  ·intro i hi K hK
   rcases (by omega:i=0∨i=1∨i=2) with rfl|rfl|rfl
   rotate_left 2
   ·have d2:decide (((2:Nat):Int)<2)=false:=by decide
    rw [Fw]
    repeat ((fail_if_success (with_reducible refine b5 (i:=9) ?_));first|(with_reducible first|refine ag.up ?_|refine fun (K:AK) hK=> ?_|refine ah (by decide) ?_|refine ar (by decide) ?_|(refine hK _ ?_;clear hK K))|simp only [go_sem,d2]|with_reducible refine wA ?_|(refine aW rfl ?_)|clear hK K)
    by_cases he:cD cur j=j
    ·have d3:((cD cur j:Int)==(j:Int))=true:=by rw [he];simp
     have e0:R=cur:=by
      rw [<-hcR];cases f with
      | zero=>rfl
      | succ f=>rw [iQ,if_pos he]
     repeat (first|(with_reducible first|refine ag.up ?_|refine fun (K:AK) hK=> ?_|refine wD ?_|refine ah (by decide) ?_|refine ar (by decide) ?_|(refine hK _ ?_;clear hK K))|simp only [go_sem,d3]|with_reducible refine wA ?_|(refine aW rfl ?_)|clear hK K)
     (refine ⟨?_, ?_, ?_⟩<;>simp only [bd,bj,AV.v.injEq,Value.int.injEq,Value.bool.injEq,Value.string.injEq,AV.vec.injEq,AV.ptr.injEq,true_or,or_true,false_or,or_false,aa.mk.injEq,forall_eq_apply_imp_iff,forall_eq,forall_eq',go_sem])
     all_goals first|rfl|exact aw _ _|(rw [e0];exact ⟨rfl,rfl,aw _ _⟩)|trace_state
    ·have hjl:j<cur.length:=by
      rcases hjl with h|h
      ·exact h
      ·exact absurd (by rw [h.2,cD];simp [h.1]) he
     have hs:=kq cur j hjl
     have d3:((cD cur j:Int)==(j:Int))=false:=by rw [beq_eq_false_iff_ne];omega
     obtain ⟨g,hg⟩: ∃g,f=g+1:=⟨f - 1,by omega⟩;rw [hg,iQ,if_neg he] at hcR;have hsl:=ff cur j (cD cur j);have hsp:=hs.1;have hul:=hs.2.1;generalize cD cur j=u at he hs d3 hcR hsl hsp hul ⊢;have e1:=gb hul;have e2:=gb hjl;have e3:=Fm hjl hul (Ne.symm he) [.v (.int .i64 (ax cur u).1), .v (.int .i64 (ax cur u).2)];have e4:=xY cur j u
     repeat ((fail_if_success (with_reducible refine b5 (i:=10) ?_));first|(with_reducible first|refine ag.up ?_|refine fun (K:AK) hK=> ?_|refine ah (by decide) ?_|refine ar (by decide) ?_|(refine hK _ ?_;clear hK K))|simp only [go_sem,d3]|with_reducible refine wA ?_|(refine aW rfl ?_)|clear hK K)
     refine du [25,27] [(9,0)] (by decide+kernel) (by kernel_rfl) ?_
     repeat (first|(with_reducible first|refine ag.up ?_|refine fun (K:AK) hK=> ?_|refine ah (by decide) ?_|refine ar (by decide) ?_|(refine hK _ ?_;clear hK K))|simp only [go_sem,e1,e2,e3,eN,Vp]|with_reducible refine wA ?_|(refine aW rfl ?_)|clear hK K)
     repeat (first|(with_reducible first|refine ag.up ?_|refine fun (K:AK) hK=> ?_|refine wD ?_|refine ah (by decide) ?_|refine ar (by decide) ?_|(refine hK _ ?_;clear hK K))|simp only [go_sem,e4]|with_reducible refine wA ?_|(refine aW rfl ?_)|clear hK K)
     refine aP.mk (swp cur j u,u,g) ⟨by rw [hsl];exact hcl,by rw [hsl];exact .inl hul,(show (swp cur j u).length<=g+u by rw [hsl];omega),hcR⟩ (show g<f by omega) ?_;simp only [hsl]
     (refine aq ?_ ?_ ?_<;>simp only [aG,UG,UH,UN,UO,bd,bj,AV.v.injEq,Value.int.injEq,Value.bool.injEq,Value.string.injEq,AV.vec.injEq,AV.ptr.injEq,true_or,or_true,false_or,or_false,aa.mk.injEq,forall_eq_apply_imp_iff,forall_eq,forall_eq',go_sem])
     all_goals first|rfl|exact aw _ _|trace_state
   ·have d0:decide (((0:Nat):Int)<2)=true:=by decide
    have ws:=aD (k:=0) (by omega)
    have eK:l6 cur j (0+1)=if 2 * j+1<cur.length∧dx (ax cur (2 * j+1)) (ax cur (l6 cur j 0))=true then 2 * j+1 else l6 cur j 0:=rfl
    by_cases hc:2 * j+1<cur.length
    ·have d1:decide (((cur.length:Nat):Int)<=((2 * j+1:Nat):Int))=false:=decide_eq_false (by omega);have hk:=uL (show j<cur.length by omega) 0;generalize hq:l6 cur j 0=q at eK hk ⊢;have e1:=gb hc;have e2:=gb hk;have C:=u0 (ax cur (2 * j+1)) (ax cur q);have hge:=zD (ax cur (2 * j+1)) (ax cur q);simp only [aC] at C
     have eN':2 * j+1<(cur.map aC).length:=by rw [eN];exact hc
     cases hb:dx (ax cur (2 * j+1)) (ax cur q)
     ·rw [hb] at hge;rw [if_neg (by rw [hb];simp)] at eK
      repeat (first|(with_reducible first|refine ag.up ?_|refine fun (K:AK) hK=> ?_|refine wD ?_|refine ah (by decide) ?_|refine ar (by decide) ?_|(refine hK _ ?_;clear hK K))|simp only [go_sem,d0,d1,e1,e2,eN]|with_reducible refine wA ?_|(refine aW rfl ?_)|clear hK K)
      refine bt.one C ?_
      repeat (first|(with_reducible first|refine ag.up ?_|refine fun (K:AK) hK=> ?_|refine wD ?_|refine ah (by decide) ?_|refine ar (by decide) ?_|(refine hK _ ?_;clear hK K))|simp only [go_sem,hge,ws]|with_reducible refine wA ?_|(refine aW rfl ?_)|clear hK K)
      refine aP.mk 1 (by omega) (by omega) ?_;rw [eK]
      (refine aq ?_ ?_ ?_<;>simp only [aG,UG,UH,UN,UO,bd,bj,AV.v.injEq,Value.int.injEq,Value.bool.injEq,Value.string.injEq,AV.vec.injEq,AV.ptr.injEq,true_or,or_true,false_or,or_false,aa.mk.injEq,forall_eq_apply_imp_iff,forall_eq,forall_eq',go_sem])
      all_goals first|rfl|exact aw _ _|trace_state
     ·rw [hb] at hge;rw [if_pos ⟨hc,hb⟩] at eK
      repeat (first|(with_reducible first|refine ag.up ?_|refine fun (K:AK) hK=> ?_|refine wD ?_|refine ah (by decide) ?_|refine ar (by decide) ?_|(refine hK _ ?_;clear hK K))|simp only [go_sem,d0,d1,e1,e2,eN]|with_reducible refine wA ?_|(refine aW rfl ?_)|clear hK K)
      refine bt.one C ?_
      repeat (first|(with_reducible first|refine ag.up ?_|refine fun (K:AK) hK=> ?_|refine wD ?_|refine ah (by decide) ?_|refine ar (by decide) ?_|(refine hK _ ?_;clear hK K))|simp only [go_sem,hge,ws]|with_reducible refine wA ?_|(refine aW rfl ?_)|clear hK K)
      refine aP.mk 1 (by omega) (by omega) ?_;rw [eK]
      (refine aq ?_ ?_ ?_<;>simp only [aG,UG,UH,UN,UO,bd,bj,AV.v.injEq,Value.int.injEq,Value.bool.injEq,Value.string.injEq,AV.vec.injEq,AV.ptr.injEq,true_or,or_true,false_or,or_false,aa.mk.injEq,forall_eq_apply_imp_iff,forall_eq,forall_eq',go_sem])
      all_goals first|rfl|exact aw _ _|trace_state
    ·have d1:decide (((cur.length:Nat):Int)<=((2 * j+1:Nat):Int))=true:=decide_eq_true (by omega);rw [if_neg (fun h=>hc h.1)] at eK
     repeat (first|(with_reducible first|refine ag.up ?_|refine fun (K:AK) hK=> ?_|refine wD ?_|refine ah (by decide) ?_|refine ar (by decide) ?_|(refine hK _ ?_;clear hK K))|simp only [go_sem,d0,d1,eN,ws]|with_reducible refine wA ?_|(refine aW rfl ?_)|clear hK K)
     refine aP.mk 1 (by omega) (by omega) ?_;rw [eK]
     (refine aq ?_ ?_ ?_<;>simp only [aG,UG,UH,UN,UO,bd,bj,AV.v.injEq,Value.int.injEq,Value.bool.injEq,Value.string.injEq,AV.vec.injEq,AV.ptr.injEq,true_or,or_true,false_or,or_false,aa.mk.injEq,forall_eq_apply_imp_iff,forall_eq,forall_eq',go_sem])
     all_goals first|rfl|exact aw _ _|trace_state
   ·have d0:decide (((1:Nat):Int)<2)=true:=by decide
    have ws:=aD (k:=1) (by omega)
    have eK:l6 cur j (1+1)=if 2 * j+2<cur.length∧dx (ax cur (2 * j+2)) (ax cur (l6 cur j 1))=true then 2 * j+2 else l6 cur j 1:=rfl
    by_cases hc:2 * j+2<cur.length
    ·have d1:decide (((cur.length:Nat):Int)<=((2 * j+2:Nat):Int))=false:=decide_eq_false (by omega);have hk:=uL (show j<cur.length by omega) 1;generalize hq:l6 cur j 1=q at eK hk ⊢;have e1:=gb hc;have e2:=gb hk;have C:=u0 (ax cur (2 * j+2)) (ax cur q);have hge:=zD (ax cur (2 * j+2)) (ax cur q);simp only [aC] at C
     have eN':2 * j+2<(cur.map aC).length:=by rw [eN];exact hc
     cases hb:dx (ax cur (2 * j+2)) (ax cur q)
     ·rw [hb] at hge;rw [if_neg (by rw [hb];simp)] at eK
      repeat (first|(with_reducible first|refine ag.up ?_|refine fun (K:AK) hK=> ?_|refine wD ?_|refine ah (by decide) ?_|refine ar (by decide) ?_|(refine hK _ ?_;clear hK K))|simp only [go_sem,d0,d1,e1,e2,eN]|with_reducible refine wA ?_|(refine aW rfl ?_)|clear hK K)
      refine bt.one C ?_
      repeat (first|(with_reducible first|refine ag.up ?_|refine fun (K:AK) hK=> ?_|refine wD ?_|refine ah (by decide) ?_|refine ar (by decide) ?_|(refine hK _ ?_;clear hK K))|simp only [go_sem,hge,ws]|with_reducible refine wA ?_|(refine aW rfl ?_)|clear hK K)
      refine aP.mk 2 (by omega) (by omega) ?_;rw [eK]
      (refine aq ?_ ?_ ?_<;>simp only [aG,UG,UH,UN,UO,bd,bj,AV.v.injEq,Value.int.injEq,Value.bool.injEq,Value.string.injEq,AV.vec.injEq,AV.ptr.injEq,true_or,or_true,false_or,or_false,aa.mk.injEq,forall_eq_apply_imp_iff,forall_eq,forall_eq',go_sem])
      all_goals first|rfl|exact aw _ _|trace_state
     ·rw [hb] at hge;rw [if_pos ⟨hc,hb⟩] at eK
      repeat (first|(with_reducible first|refine ag.up ?_|refine fun (K:AK) hK=> ?_|refine wD ?_|refine ah (by decide) ?_|refine ar (by decide) ?_|(refine hK _ ?_;clear hK K))|simp only [go_sem,d0,d1,e1,e2,eN]|with_reducible refine wA ?_|(refine aW rfl ?_)|clear hK K)
      refine bt.one C ?_
      repeat (first|(with_reducible first|refine ag.up ?_|refine fun (K:AK) hK=> ?_|refine wD ?_|refine ah (by decide) ?_|refine ar (by decide) ?_|(refine hK _ ?_;clear hK K))|simp only [go_sem,hge,ws]|with_reducible refine wA ?_|(refine aW rfl ?_)|clear hK K)
      refine aP.mk 2 (by omega) (by omega) ?_;rw [eK]
      (refine aq ?_ ?_ ?_<;>simp only [aG,UG,UH,UN,UO,bd,bj,AV.v.injEq,Value.int.injEq,Value.bool.injEq,Value.string.injEq,AV.vec.injEq,AV.ptr.injEq,true_or,or_true,false_or,or_false,aa.mk.injEq,forall_eq_apply_imp_iff,forall_eq,forall_eq',go_sem])
      all_goals first|rfl|exact aw _ _|trace_state
    ·have d1:decide (((cur.length:Nat):Int)<=((2 * j+2:Nat):Int))=true:=decide_eq_true (by omega);rw [if_neg (fun h=>hc h.1)] at eK
     repeat (first|(with_reducible first|refine ag.up ?_|refine fun (K:AK) hK=> ?_|refine wD ?_|refine ah (by decide) ?_|refine ar (by decide) ?_|(refine hK _ ?_;clear hK K))|simp only [go_sem,d0,d1,eN,ws]|with_reducible refine wA ?_|(refine aW rfl ?_)|clear hK K)
     refine aP.mk 2 (by omega) (by omega) ?_;rw [eK]
     (refine aq ?_ ?_ ?_<;>simp only [aG,UG,UH,UN,UO,bd,bj,AV.v.injEq,Value.int.injEq,Value.bool.injEq,Value.string.injEq,AV.vec.injEq,AV.ptr.injEq,true_or,or_true,false_or,or_false,aa.mk.injEq,forall_eq_apply_imp_iff,forall_eq,forall_eq',go_sem])
     all_goals first|rfl|exact aw _ _|trace_state
theorem No (l:List de) (hne:l≠[]) (hl:l.length<=1000000):aR Tryz.prog 58 [.ptr 0 0 2 0 0] (l5 l) (.ct [.agg (aC (ax l 0)), .v (.bool true)]) [some ⟨162,2,false,[[.vec 4 (jS l).length, .v (.bool true)]]⟩,none,none,none,some ⟨115,2,true,(jS l).map aC⟩]:=by
 have F:=A4 l hl;rw [decide_eq_true hne] at F;have hpos:0<l.length:=Vo.2 hne;have S:=LA ((l.set 0 (ax l (l.length - 1))).take (l.length - 1)) (by simp;omega)
 have eL:((l.set 0 (ax l (l.length - 1))).take (l.length - 1)).length=l.length - 1:=by simp
 have hpl:=ri hne
 have eP:iQ ((l.set 0 (ax l (l.length - 1))).take (l.length - 1)).length ((l.set 0 (ax l (l.length - 1))).take (l.length - 1)) 0=jS l:=by rw [eL];rfl
 rw [eP] at S;simp only [l5,eL,aC] at S F;simp only [l5,aC]
 have eN:(l.map aC).length=l.length:=by simp
 have w1:IntKind.i64.wrap ((l.length:Int) - 1)=((l.length - 1:Nat):Int):=by rw [dQ (by omega) (by omega)];omega
 have eT:((l.map aC).set 0 [.v (.int .i64 (ax l (l.length - 1)).1), .v (.int .i64 (ax l (l.length - 1)).2)]).take (l.length - 1)=((l.set 0 (ax l (l.length - 1))).take (l.length - 1)).map aC:=by rw [List.map_take,Vl];rfl
 have e0:=gb hpos;have e1:=gb (show l.length - 1<l.length by omega);have eZ: ∀f l,bI f (List.map aC l)=List.map aC l:=fun f l=>bc _ _ (aw _ _)
 (refine aR.enter Tryz.func58 rfl (by kernel_rfl) (by kernel_rfl) rfl ?_;simp only [Tryz.ntmps58,Tryz.results58,Tc,S6,Nat.reduceAdd,Nat.reduceSub,UN,UO,UP,UQ])
 repeat (first|(with_reducible first|refine ag.up ?_|refine fun (K:AK) hK=> ?_|refine wE ?_|refine wK ?_|refine wF ?_|(refine hK _ ?_;clear hK K))|simp only [go_sem]|with_reducible refine wA ?_|clear hK K)
 refine ab.fr [0,1] F (by simp) ?_ ?_ ?_ ?_ ?_
 ·simp only [Vd,Vq,Ud,UD,TG,aa.aO,bI,bo,AV.aO,eZ];rfl
 ·rfl
 ·rfl
 ·intro j ob hj
  match j,hj with
  | 0,hj=>cases hj;rfl
  | 1,hj=>cases hj;exact aw _ _
  | j+2,hj=>simp at hj
 repeat ((fail_if_success (with_reducible refine b5 (i:=5) ?_));first|(with_reducible first|refine ag.up ?_|refine fun (K:AK) hK=> ?_|refine wE ?_|refine wK ?_|refine wF ?_|(refine hK _ ?_;clear hK K))|simp only [go_sem,eZ,w1,e0,e1,eN]|with_reducible refine wA ?_|clear hK K)
 refine Ib 6 rfl (by kernel_rfl) rfl ?_
 repeat (first|(with_reducible first|refine ag.up ?_|refine fun (K:AK) hK=> ?_|refine wE ?_|refine wK ?_|refine wF ?_|(refine hK _ ?_;clear hK K))|simp only [go_sem,eN,Vp]|with_reducible refine wA ?_|clear hK K)
 refine ⟨_,_,KO rfl rfl rfl rfl rfl (by simp) (by kernel_rfl) (Nat.sub_le _ 1), ?_⟩;simp only [List.drop_succ_cons,List.drop_zero,eT]
 repeat (first|(with_reducible first|refine ag.up ?_|refine fun (K:AK) hK=> ?_|refine wE ?_|refine wK ?_|refine wF ?_|(refine hK _ ?_;clear hK K))|simp only [go_sem,eN]|with_reducible refine wA ?_|clear hK K)
 refine ab.fr [0,4] S (by simp) ?_ ?_ ?_ ?_ ?_
 ·simp only [Vd,Vq,Ud,UD,TG,aa.aO,bI,bo,AV.aO,eZ];rfl
 ·rfl
 ·rfl
 ·intro j ob hj
  match j,hj with
  | 0,hj=>cases hj;rfl
  | 1,hj=>cases hj;exact aw _ _
  | j+2,hj=>simp at hj
 repeat (first|(with_reducible first|refine ag.up ?_|refine fun (K:AK) hK=> ?_|refine wE ?_|refine wK ?_|refine wF ?_|(refine hK _ ?_;clear hK K))|simp only [go_sem,eZ]|with_reducible refine wA ?_|clear hK K)
 (refine ⟨?_, ?_, ?_⟩<;>simp only [bd,bj,AV.v.injEq,Value.int.injEq,Value.bool.injEq,Value.string.injEq,AV.vec.injEq,AV.ptr.injEq,true_or,or_true,false_or,or_false,aa.mk.injEq,forall_eq_apply_imp_iff,forall_eq,forall_eq',go_sem])
 all_goals first|rfl|exact aw _ _|trace_state
theorem Lk:aR Tryz.prog 58 [.ptr 0 0 2 0 0] (l5 []) (.ct [.agg (aC (ax [] 0)), .v (.bool false)]) (l5 []):=by
 have F:=A4 [] (by simp);rw [show decide (([]:List de)≠[])=false from rfl] at F;simp only [l5,aC,Vq,S6] at F ⊢
 (refine aR.enter Tryz.func58 rfl (by kernel_rfl) (by kernel_rfl) rfl ?_;simp only [Tryz.ntmps58,Tryz.results58,Tc,S6,Nat.reduceAdd,Nat.reduceSub,UN,UO,UP,UQ])
 repeat (first|(with_reducible first|refine ag.up ?_|refine fun (K:AK) hK=> ?_|(refine hK _ ?_;clear hK K))|simp only [go_sem]|with_reducible refine wA ?_|clear hK K)
 refine ab.fr [0,1] F (by simp) ?_ ?_ ?_ ?_ ?_
 ·rfl
 ·rfl
 ·rfl
 ·intro j ob hj
  match j,hj with
  | 0,hj=>cases hj;rfl
  | 1,hj=>cases hj;rfl
  | j+2,hj=>simp at hj
 repeat (first|(with_reducible first|refine ag.up ?_|refine fun (K:AK) hK=> ?_|(refine hK _ ?_;clear hK K))|simp only [go_sem]|with_reducible refine wA ?_|clear hK K)
 (refine ⟨?_, ?_, ?_⟩<;>simp only [bd,bj,AV.v.injEq,Value.int.injEq,Value.bool.injEq,Value.string.injEq,AV.vec.injEq,AV.ptr.injEq,true_or,or_true,false_or,or_false,aa.mk.injEq,forall_eq_apply_imp_iff,forall_eq,forall_eq',go_sem])
 all_goals first|rfl|trace_state
theorem Jq:aR Tryz.prog 57 [.ptr 0 0 2 0 0, .v (.slice none 0 0)] (l5 []) (.v (.int .i64 0)) (l5 []):=by
 have M:=zJ (.aI 2 [] 0) true rfl
 have d1:decide (((0:Nat):Int)<((0:Nat):Int))=false:=by decide
 simp only [l5,Vq,S6]
 (refine aR.enter Tryz.func57 rfl (by kernel_rfl) (by kernel_rfl) rfl ?_;simp only [Tryz.ntmps57,Tryz.results57,Tc,S6,Nat.reduceAdd,Nat.reduceSub,UN,UO,UP,UQ])
 repeat (first|(with_reducible first|refine ag.up ?_|refine fun (K:AK) hK=> ?_|(refine hK _ ?_;clear hK K))|simp only [go_sem]|with_reducible refine wA ?_|clear hK K)
 refine ab.E9 M 8 rfl (by simp only [go_sem,Nat.reduceLT,Nat.reduceLeDiff,Nat.reduceEqDiff,Vm,Vn,and_self,aw]) rfl ?_
 repeat (first|(with_reducible first|refine ag.up ?_|refine fun (K:AK) hK=> ?_|(refine hK _ ?_;clear hK K))|simp only [go_sem]|with_reducible refine wA ?_|clear hK K)
 refine bW (ι:=Unit) 13 (fun _=>[(6, .undef)]) (fun _=>[some ⟨162,2,false,[[.vec 1 0, .v (.bool true)]]⟩,some ⟨115,2,true,[]⟩]) (fun _=>0) (fun _=>True) () trivial ?_ ?_
 ·(refine aq ?_ ?_ ?_<;>simp only [aG,UG,UH,UN,UO,bd,bj,AV.v.injEq,Value.int.injEq,Value.bool.injEq,Value.string.injEq,AV.vec.injEq,AV.ptr.injEq,true_or,or_true,false_or,or_false,aa.mk.injEq,forall_eq_apply_imp_iff,forall_eq,forall_eq',go_sem])
  all_goals first|rfl|trace_state
 ·rintro _ _ K hK
  repeat (first|(with_reducible first|refine ag.up ?_|refine fun (K:AK) hK=> ?_|(refine hK _ ?_;clear hK K))|simp only [go_sem,d1]|with_reducible refine wA ?_|clear hK K)
  (refine ⟨?_, ?_, ?_⟩<;>simp only [bd,bj,AV.v.injEq,Value.int.injEq,Value.bool.injEq,Value.string.injEq,AV.vec.injEq,AV.ptr.injEq,true_or,or_true,false_or,or_false,aa.mk.injEq,forall_eq_apply_imp_iff,forall_eq,forall_eq',go_sem])
  all_goals first|rfl|trace_state
theorem Ni:aR Tryz.prog 53 [.v (.slice none 0 0)] [] (.ptr 0 0 2 0 0) (l5 []):=by
 have S:=Jq;simp only [l5,Vq,S6] at S ⊢
 (refine aR.enter Tryz.func53 rfl (by kernel_rfl) (by kernel_rfl) rfl ?_;simp only [Tryz.ntmps53,Tryz.results53,Tc,S6,Nat.reduceAdd,Nat.reduceSub,UN,UO,UP,UQ])
 repeat ((fail_if_success (with_reducible refine b5 (i:=2) ?_));first|(with_reducible first|refine ag.up ?_|refine fun (K:AK) hK=> ?_|(refine hK _ ?_;clear hK K))|simp only [go_sem]|with_reducible refine wA ?_|clear hK K)
 refine ck (eJ (k:=0) (i:=0) (j:=0) 115 2 (by decide) rfl (by decide) rfl rfl) (by kernel_rfl) ?_;simp only [List.set_cons_zero,List.set_cons_succ,Tc,S6,Nat.reduceAdd,UP,UQ]
 repeat (first|(with_reducible first|refine ag.up ?_|refine fun (K:AK) hK=> ?_|(refine hK _ ?_;clear hK K))|simp only [go_sem]|with_reducible refine wA ?_|clear hK K)
 refine ab.fr [0,1] S (by simp) ?_ ?_ ?_ ?_ ?_
 ·rfl
 ·rfl
 ·rfl
 ·intro j ob hj
  match j,hj with
  | 0,hj=>cases hj;rfl
  | 1,hj=>cases hj;rfl
  | j+2,hj=>simp at hj
 repeat (first|(with_reducible first|refine ag.up ?_|refine fun (K:AK) hK=> ?_|(refine hK _ ?_;clear hK K))|simp only [go_sem]|with_reducible refine wA ?_|clear hK K)
 (refine ⟨?_, ?_, ?_⟩<;>simp only [bd,bj,AV.v.injEq,Value.int.injEq,Value.bool.injEq,Value.string.injEq,AV.vec.injEq,AV.ptr.injEq,true_or,or_true,false_or,or_false,aa.mk.injEq,forall_eq_apply_imp_iff,forall_eq,forall_eq',go_sem])
 all_goals first|rfl|trace_state
section
theorem lC {s t:ByteArray}:dp s t=true↔s=t:=toList_inj
theorem jF {α:Type} {p:List α->Prop} (h0:p []) (h1: ∀l a,p l->p (l++[a])) (l:List α):p l:=by
 rw [<-List.reverse_reverse l]
 induction l.reverse with
 | nil=>exact h0
 | cons a l ih=>rw [List.reverse_cons];exact h1 _ _ ih
theorem Fk (n m:Nat) (f:Nat->Nat) (h1: ∀a,a<n->f a<m) (h2: ∀a b,a<n->b<n->f a=f b->a=b):n<=m:=by
 have hn:((List.range n).map f).Nodup:=by
  rw [List.Nodup,Vr];intro i j hi hj hij;simp only [T1,List.length_range] at hi hj;simp only [Vs,List.getElem_range];intro e;have:=h2 i j hi hj e;omega
 have hs:((List.range n).map f) ⊆ List.range m:=fun x hx=>by
  obtain ⟨a,ha,rfl⟩:=List.mem_map.1 hx;exact Uj.2 (h1 a (Uj.1 ha))
 have:=hn.length_le_of_subset hs
 simpa using this
theorem wH (u:Nat): ∀c∈Lib.decDigits u,48<=c.toNat∧c.toNat<=57:=by
 induction u using Nat.strongRecOn with
 | _ u ih=>
  intro c hc;rw [Lib.decDigits] at hc
  split at hc
  ·simp only [U7] at hc;subst hc;simp;omega
  ·rw [U6] at hc
   rcases hc with hc|hc
   ·exact ih (u / 10) (by omega) c hc
   ·simp only [U7] at hc;subst hc;simp;omega
theorem qj (u:Nat) (h:u<1000):(Lib.decDigits u).length<=3:=by
 rw [Lib.decDigits];split
 ·simp
 ·rw [Lib.decDigits];split
  ·simp
  ·rw [Lib.decDigits,dif_pos (by omega)];simp
def Bz (l:List UInt8):Nat:=l.foldl (fun a c=>a * 10+(c.toNat - 48)) 0
theorem rH (u:Nat):Bz (Lib.decDigits u)=u:=by
 induction u using Nat.strongRecOn with
 | _ u ih=>
  rw [Lib.decDigits];split
  ·rename_i h;simp [Bz];omega
  ·rename_i h
   have:=ih (u / 10) (by omega)
   rw [Bz,Vt, <- Bz,this];simp;omega
theorem ER {u v:Nat} (h:Lib.decDigits u=Lib.decDigits v):u=v:=by rw [<-rH u, <- rH v,h]
theorem mE {u v:Nat} {r s:List UInt8} (h:Lib.decDigits u++r=Lib.decDigits v++s) (hr:r=[]∨r.head? = some 32) (hs:s=[]∨s.head? = some 32):u=v∧r=s:=by
 have key: ∀(a b r s:List UInt8),a++r=b++s->(∀c∈a,48<=c.toNat∧c.toNat<=57)->(∀c∈b,48<=c.toNat∧c.toNat<=57)->(r=[]∨r.head? = some 32)->(s=[]∨s.head? = some 32)->a=b∧r=s:=by
  intro a
  induction a with
  | nil=>
   intro b r s h ha hb hr hs
   cases b with
   | nil=>exact ⟨rfl,h⟩
   | cons c b=>
    have:=hb c List.mem_cons_self
    rw [UQ] at h;subst h
    rcases hr with hr|hr
    ·simp at hr
    ·simp at hr;subst hr;simp at this
  | cons d a ih=>
   intro b r s h ha hb hr hs
   cases b with
   | nil=>
    have:=ha d List.mem_cons_self
    rw [UQ] at h;subst h
    rcases hs with hs|hs
    ·simp at hs
    ·simp at hs;subst hs;simp at this
   | cons c b=>
    simp only [List.cons_append,Vi] at h;obtain ⟨rfl,h⟩:=h;obtain ⟨h1,h2⟩:=ih b r s h (fun c hc=>ha c (T8 _ hc)) (fun c hc=>hb c (T8 _ hc)) hr hs;exact ⟨by rw [h1],h2⟩
 obtain ⟨h1,h2⟩:=key _ _ _ _ h (wH u) (wH v) hr hs;exact ⟨ER h1,h2⟩
def jr (l:List Nat):List UInt8:=l.flatMap (fun n=>Lib.decDigits n++[32])
def iC (l:List Nat):ByteArray:=⟨(jr l).toArray⟩
theorem xd: ∀ {l m:List Nat},jr l=jr m->l=m
 | [],[],_=>rfl
 | [],b :: m,h=>by simp [jr] at h
 | a :: l,[],h=>by simp [jr] at h
 | a :: l,b :: m,h=>by
  simp only [jr,List.flatMap_cons,TB] at h;obtain ⟨h1,h2⟩:=mE h (.inr rfl) (.inr rfl);simp only [List.cons_append,UQ,Vi,true_and] at h2;rw [h1,xd (l:=l) (m:=m) h2]
theorem Fq {l m:List Nat} (h:iC l=iC m):l=m:=by
 have:(iC l).data.toList=(iC m).data.toList:=by rw [h]
 exact xd (by simpa [iC] using this)
def pos (l:List ByteArray) (s:ByteArray):Option Nat:=l.findIdx? (fun x=>dp s x)
theorem xB {l:List ByteArray} {s:ByteArray}:pos l s=none↔s∉l:=by
 rw [pos,Uu]
 constructor
 ·intro h hm;have:=h s hm;rw [lC.2 rfl] at this;cases this
 ·intro h x hx
  cases hh:dp s x
  ·rfl
  ·rw [lC] at hh;subst hh;exact absurd hx h
theorem rj {l:List ByteArray} {s:ByteArray} {k:Nat} (h:pos l s=some k): ∃hk:k<l.length,l[k]=s:=by
 rw [pos,Ut] at h;obtain ⟨h1,h2,_⟩:=h;exact ⟨h1,(lC.1 h2).symm⟩
theorem Lm {l:List ByteArray} {s:ByteArray} {k:Nat} (h:pos l s=some k):k<l.length:=(rj h).1
abbrev a7:=List (ByteArray×Nat)
structure mj where
 all:List (List Nat)
 rows:List a7
 ends:List Bool
section
variable (cg:List Nat->ByteArray->List Nat) (em:Bool) (la:List Nat)
def Bq (cur:List Nat) (st:List (List Nat)×a7) (lab:ByteArray):List (List Nat)×a7:=
 if cg cur lab=[] then st else match pos (st.1.map iC) (iC (cg cur lab)) with
 | some k=>(st.1,st.2++[(lab,k)])
 | none=>(st.1++[cg cur lab],st.2++[(lab,st.1.length)])
def gh (cur:List Nat) (all:List (List Nat)) (ae:List ByteArray):List (List Nat)×a7:=ae.foldl (Bq cg cur) (all,[])
theorem lj (cur:List Nat) (all:List (List Nat)) (ae:List ByteArray) (l:ByteArray):gh cg cur all (ae++[l])=Bq cg cur (gh cg cur all ae) l:=by rw [gh,Vt];rfl
def dL (st:mj):List Nat:=st.all.getD st.rows.length []
def xP (st:mj):Bool:=(st.rows.length==0&&em)||(dL st).any (fun p=>la.contains p)
def cN (ae:List ByteArray) (st:mj):mj:=⟨(gh cg (dL st) st.all ae).1,st.rows++[(gh cg (dL st) st.all ae).2],st.ends++[xP em la st]⟩
def mZ (ae:List ByteArray):Nat->mj->Option mj
 | 0,st=>some st
 | f+1,st=>if st.rows.length<st.all.length then (if 256<(cN cg em la ae st).all.length then none else mZ ae f (cN cg em la ae st)) else some st
def s0:mj:=⟨[[0]],[],[]⟩
def rz (ae:List ByteArray):Option mj:=mZ cg em la ae 257 s0
structure BV (ae:List ByteArray) (st:mj):Prop where
 le:st.rows.length<=st.all.length
 max:st.all.length<=256
 nd:(st.all.map iC).Nodup
 ends:st.ends.length=st.rows.length
 row: ∀r∈st.rows,(r.map Prod.fst).Sublist ae∧ ∀p∈r,p.2<st.all.length
theorem Lv {cur:List Nat} {a:List (List Nat)×a7} {lab:ByteArray} (hn:(a.1.map iC).Nodup) (hr: ∀p∈a.2,p.2<a.1.length) :
  ((Bq cg cur a lab).1.map iC).Nodup∧(∀p∈(Bq cg cur a lab).2,p.2<(Bq cg cur a lab).1.length)∧a.1.length<=(Bq cg cur a lab).1.length∧(Bq cg cur a lab).1.length<=a.1.length+1 ∧
  ((Bq cg cur a lab).2=a.2∨ ∃k,(Bq cg cur a lab).2=a.2++[(lab,k)])∧ ∃t,(Bq cg cur a lab).1=a.1++t:=by
 unfold Bq
 split
 ·exact ⟨hn,hr,SY _,Nat.le_succ _, .inl rfl,[],by simp⟩
 ·split
  ·rename_i k hk
   have:=Lm hk
   rw [T1] at this;refine ⟨hn,fun p hp=> ?_,SY _,Nat.le_succ _, .inr ⟨_,rfl⟩,[],by simp⟩;simp only [U6,U7] at hp
   rcases hp with hp|rfl
   ·exact hr p hp
   ·exact this
  ·rename_i hk
   refine ⟨?_,fun p hp=> ?_,by simp,by simp, .inr ⟨_,rfl⟩,_,rfl⟩
   ·rw [Vu,List.map_singleton,Vv];refine ⟨hn,by simp,fun x hx y hy=> ?_⟩;simp only [U7] at hy;subst hy;rintro rfl;exact xB.1 hk hx
   ·simp only [U6,U7,Tb,Vx] at hp ⊢
    rcases hp with hp|rfl
    ·have:=hr p hp;omega
    ·simp
theorem vn {cur:List Nat} {all:List (List Nat)} (hn:(all.map iC).Nodup): ∀(ae:List ByteArray),
  ((gh cg cur all ae).1.map iC).Nodup∧(∀p∈(gh cg cur all ae).2,p.2<(gh cg cur all ae).1.length)∧all.length<=(gh cg cur all ae).1.length∧(gh cg cur all ae).1.length<=all.length+ae.length ∧
  ((gh cg cur all ae).2.map Prod.fst).Sublist ae∧ ∃t,(gh cg cur all ae).1=all++t:=by
 refine jF ⟨hn,by simp [gh],SY _,SY _,by simp [gh],[],by simp [gh]⟩ ?_
 ·rintro ae l ⟨h1,h2,h3,h4,h5,t,h6⟩;obtain ⟨k1,k2,k3,k4,k5,t2,k6⟩:=Lv cg (cur:=cur) (lab:=l) h1 h2;rw [<-lj] at k1 k2 k3 k4 k5 k6;refine ⟨k1,k2,by omega,by simp;omega, ?_,t++t2,by rw [k6,h6,TB]⟩
  rcases k5 with k5|⟨k,k5⟩
  ·rw [k5];exact h5.trans (List.sublist_append_left _ _)
  ·rw [k5,Vu];exact h5.append (by simp)
theorem Lw (ae:List ByteArray):BV ae s0:=⟨by simp [s0],by simp [s0],by simp [s0],rfl,by simp [s0]⟩
theorem ru {ae:List ByteArray} {st:mj} (h:BV ae st) (h1:st.rows.length<st.all.length) (h2: ¬ 256<(cN cg em la ae st).all.length):BV ae (cN cg em la ae st):=by
 obtain ⟨k1,k2,k3,k4,k5,t,k6⟩:=vn cg (cur:=dL st) h.nd ae
 refine ⟨?_,by omega,k1, ?_,fun r hr=> ?_⟩
 ·simp only [cN,Tb,Vx];omega
 ·simp only [cN,Tb,Vx,h.ends]
 ·simp only [cN,U6,U7] at hr ⊢
  rcases hr with hr|rfl
  ·obtain ⟨q1,q2⟩:=h.row r hr;exact ⟨q1,fun p hp=>by have:=q2 p hp;omega⟩
  ·exact ⟨k5,k2⟩
theorem Br {ae:List ByteArray}: ∀(f:Nat) {st st':mj},BV ae st->257<=f+st.rows.length->mZ cg em la ae f st=some st'->BV ae st'∧st'.rows.length=st'.all.length
 | 0,st,st',h,hf,e=>by
  simp only [mZ,Option.some.injEq] at e;subst e
  have:=h.le;have:=h.max;omega
 | f+1,st,st',h,hf,e=>by
  rw [mZ] at e
  split at e
  ·rename_i h1
   split at e
   ·cases e
   ·rename_i h2;exact Br f (ru cg em la h h1 h2) (by simp only [cN,Tb,Vx];omega) e
  ·cases e;exact ⟨h,by have:=h.le;omega⟩
end
section
variable (rows:List a7)
def u6 (part:List Nat) (p:Nat) (row:a7):List UInt8:=Lib.decDigits p++row.flatMap (fun e=>32 :: (e.1.data.toList++32 :: Lib.decDigits (part.getD e.2 0)))
def cz (part:List Nat) (p:Nat) (row:a7):ByteArray:=⟨(u6 part p row).toArray⟩
theorem Dg (part:List Nat) (p:Nat) (row:a7) (e:ByteArray×Nat):u6 part p (row++[e])=u6 part p row++32 :: (e.1.data.toList++32 :: Lib.decDigits (part.getD e.2 0)):=by simp [u6]
def OS (part:List Nat) (st:List ByteArray×List Nat) (s:Nat):List ByteArray×List Nat:=
 match pos st.1 (cz part (part.getD s 0) (rows.getD s [])) with
 | some k=>(st.1,st.2++[k])
 | none=>(st.1++[cz part (part.getD s 0) (rows.getD s [])],st.2++[st.1.length])
def dy (part:List Nat) (n:Nat):List ByteArray×List Nat:=(List.range n).foldl (OS rows part) ([],[])
theorem te (part:List Nat) (n:Nat):dy rows part (n+1)=OS rows part (dy rows part n) n:=by rw [dy,List.range_succ,Vt];rfl
def dA (part:List Nat):List Nat:=(dy rows part rows.length).2
def fQ (part:List Nat):Nat:=(dy rows part rows.length).1.length
def u7:Nat->List Nat->Nat->List Nat
 | 0,part,_=>part
 | f+1,part,many=>if fQ rows part=many then dA rows part else u7 f (dA rows part) (fQ rows part)
def p0 (ends:List Bool):List Nat:=ends.map (fun b=>if b then 1 else 0)
def cu (ends:List Bool):List Nat:=u7 rows (rows.length+2) (p0 ends) 0
structure MC (part:List Nat) (n:Nat):Prop where
 len:(dy rows part n).2.length=n
 nd:(dy rows part n).1.Nodup
 le:(dy rows part n).1.length<=n
 at': ∀s,s<n-> ∃h:(dy rows part n).2.getD s 0<(dy rows part n).1.length,(dy rows part n).1[(dy rows part n).2.getD s 0]=cz part (part.getD s 0) (rows.getD s [])
 on: ∀k,k<(dy rows part n).1.length-> ∃s,s<n∧(dy rows part n).2.getD s 0=k
theorem fD (part:List Nat): ∀n,MC rows part n
 | 0=>⟨rfl,by simp [dy],by simp [dy],fun s h=>by omega,fun k h=>by simp [dy] at h⟩
 | n+1=>by
  have ih:=fD part n;have e:=te rows part n;unfold OS at e
  have hg: ∀(l:List Nat) (x s:Nat),l.length=n->s<n->(l++[x]).getD s 0=l.getD s 0:=fun l x s h1 h2=>by
   rw [T3,S8 (by omega),T3]
  have hl: ∀(l:List Nat) (x:Nat),l.length=n->(l++[x]).getD n 0=x:=fun l x h1=>by
   rw [T3,TD (by omega),h1];simp
  cases hp:pos (dy rows part n).1 (cz part (part.getD n 0) (rows.getD n [])) with
  | some k=>
   rw [hp] at e;simp only at e;obtain ⟨hk,hk2⟩:=rj hp
   refine ⟨by rw [e];simp [ih.len],by rw [e];exact ih.nd,by rw [e];have:=ih.le;simp only;omega,fun s hs=> ?_,fun j hj=> ?_⟩
   ·simp only [e]
    rcases S9 s n with q|q
    ·simp only [hg _ _ s ih.len q];exact ih.at' s q
    ·obtain rfl:s=n:=by omega
     simp only [hl _ _ ih.len];exact ⟨hk,hk2⟩
   ·simp only [e] at hj ⊢;obtain ⟨s,q1,q2⟩:=ih.on j hj;exact ⟨s,by omega,by rw [hg _ _ s ih.len q1];exact q2⟩
  | none=>
   rw [hp] at e;simp only at e
   refine ⟨by rw [e];simp [ih.len], ?_,by rw [e];have:=ih.le;simp only [Tb,Vx];omega,fun s hs=> ?_,fun j hj=> ?_⟩
   ·rw [e];simp only;rw [Vv];refine ⟨ih.nd,by simp,fun x hx y hy=> ?_⟩;simp only [U7] at hy;subst hy;rintro rfl;exact xB.1 hp hx
   ·simp only [e]
    rcases S9 s n with q|q
    ·obtain ⟨q1,q2⟩:=ih.at' s q;simp only [hg _ _ s ih.len q];exact ⟨by simp only [Tb,Vx];omega,by rw [List.getElem_append_left q1];exact q2⟩
    ·obtain rfl:s=n:=by omega
     simp only [hl _ _ ih.len];exact ⟨by simp,by rw [List.getElem_append_right (SY _)];simp⟩
   ·simp only [e,Tb,Vx] at hj ⊢
    rcases S9 j (dy rows part n).1.length with q|q
    ·obtain ⟨s,q1,q2⟩:=ih.on j q;exact ⟨s,by omega,by rw [hg _ _ s ih.len q1];exact q2⟩
    ·exact ⟨n,by omega,by rw [hl _ _ ih.len];omega⟩
theorem qY {part:List Nat} {p q:Nat} {r s:a7} (h:cz part p r=cz part q s):p=q:=by
 have e:u6 part p r=u6 part q s:=by
  have:(cz part p r).data.toList=(cz part q s).data.toList:=by rw [h]
  simpa [cz] using this
 have hh: ∀t:a7,(t.flatMap (fun e=>32 :: (e.1.data.toList++32 :: Lib.decDigits (part.getD e.2 0))))=[]∨(t.flatMap (fun e=>32 :: (e.1.data.toList++32 :: Lib.decDigits (part.getD e.2 0)))).head? = some 32:=fun t=>by
  cases t with
  | nil=>exact .inl rfl
  | cons a t=>exact .inr rfl
 exact (mE e (hh r) (hh s)).1
def MD (part:List Nat) (many:Nat):Prop:=part.length=rows.length∧ ∀k,k<many-> ∃s,s<rows.length∧part.getD s 0=k
theorem q9 (part:List Nat):MD rows (dA rows part) (fQ rows part):=⟨(fD rows part _).len,(fD rows part _).on⟩
theorem xx (part:List Nat):fQ rows part<=rows.length:=(fD rows part _).le
theorem q8 {part:List Nat} {many:Nat} (h:MD rows part many):many<=fQ rows part:=by
 have ok:=fD rows part rows.length
 
 have hch: ∀k, ∃m,k<many->m<fQ rows part∧ ∃s,s<rows.length∧part.getD s 0=k∧(dA rows part).getD s 0=m:=fun k=>by
  by_cases hk:k<many
  ·obtain ⟨s,h1,h2⟩:=h.2 k hk;obtain ⟨q1,_⟩:=ok.at' s h1;exact ⟨_,fun _=>⟨q1,s,h1,h2,rfl⟩⟩
  ·exact ⟨0,fun q=>absurd q hk⟩
 obtain ⟨f,hf⟩:=Classical.axiomOfChoice hch
 have inj: ∀a b,a<many->b<many->f a=f b->a=b:=fun a b ha hb e=>by
  obtain ⟨l1,s,k1,k2,k3⟩:=hf a ha;obtain ⟨l2,t,m1,m2,m3⟩:=hf b hb;obtain ⟨q1,q2⟩:=ok.at' s k1;obtain ⟨r1,r2⟩:=ok.at' t m1;have e1:(dy rows part rows.length).2.getD s 0=(dy rows part rows.length).2.getD t 0:=k3.trans (e.trans m3.symm)
  have:cz part (part.getD s 0) (rows.getD s [])=cz part (part.getD t 0) (rows.getD t []):=by rw [<-q2, <- r2];simp only [e1]
  rw [<-k2, <- m2];exact qY this
 exact Fk many (fQ rows part) f (fun a ha=>(hf a ha).1) inj
end
structure vT where
 order:List Nat
 rows:List a7
 ends:List Bool
section
variable (rows:List a7) (ends:List Bool) (part:List Nat)
def zX (order:List Nat) (x:Nat):Option Nat:=(order.map (fun s=>part.getD s 0)).findIdx? (fun y=>x==y)
theorem Dr {order:List Nat} {x:Nat}:zX part order x=none↔x∉order.map (fun s=>part.getD s 0):=by
 rw [zX,Uu]
 constructor
 ·intro h hm;have:=h x hm;simp at this
 ·intro h y hy
  cases hh:x==y
  ·rfl
  ·rw [beq_iff_eq] at hh;subst hh;exact absurd hy h
theorem tu {order:List Nat} {x k:Nat} (h:zX part order x=some k): ∃hk:k<order.length,part.getD order[k] 0=x:=by
 rw [zX,Ut] at h;obtain ⟨h1,h2,_⟩:=h;rw [T1] at h1;rw [Vs,beq_iff_eq] at h2;exact ⟨h1,h2.symm⟩
def Dq (st:List Nat×a7) (e:ByteArray×Nat):List Nat×a7:=
 match zX part st.1 (part.getD e.2 0) with
 | some n=>(st.1,st.2++[(e.1,n)])
 | none=>(st.1++[e.2],st.2++[(e.1,st.1.length)])
def dz (order:List Nat) (row:a7):List Nat×a7:=row.foldl (Dq part) (order,[])
theorem k9 (order:List Nat) (row:a7) (e:ByteArray×Nat):dz part order (row++[e])=Dq part (dz part order row) e:=by rw [dz,Vt];rfl
def gN (st:vT):Nat:=st.order.getD st.rows.length 0
def fe (st:vT):vT:=⟨(dz part st.order (rows.getD (gN st) [])).1,st.rows++[(dz part st.order (rows.getD (gN st) [])).2],st.ends++[ends.getD (gN st) false]⟩
def mW:Nat->vT->vT
 | 0,st=>st
 | f+1,st=>if st.rows.length<st.order.length then mW f (fe rows ends part st) else st
def q0:vT:=⟨[0],[],[]⟩
def cL:vT:=mW rows ends part (rows.length+1) q0
structure Ed (st:vT):Prop where
 le:st.rows.length<=st.order.length
 nd:(st.order.map (fun s=>part.getD s 0)).Nodup
 lt: ∀s∈st.order,s<rows.length
 ends:st.ends.length=st.rows.length
 row: ∀k,k<st.rows.length->(st.rows.getD k []).map Prod.fst=(rows.getD (st.order.getD k 0) []).map Prod.fst∧ ∀p∈st.rows.getD k [],p.2<st.order.length
theorem Lq {n:Nat} {a:List Nat×a7} {e:ByteArray×Nat} (he:e.2<n) (hn:(a.1.map (fun s=>part.getD s 0)).Nodup) (hl: ∀s∈a.1,s<n) (hr: ∀p∈a.2,p.2<a.1.length) :
  ((Dq part a e).1.map (fun s=>part.getD s 0)).Nodup∧(∀s∈(Dq part a e).1,s<n)∧(∀p∈(Dq part a e).2,p.2<(Dq part a e).1.length)∧a.1.length<=(Dq part a e).1.length ∧
  (Dq part a e).2.map Prod.fst=a.2.map Prod.fst++[e.1]∧ ∃t,(Dq part a e).1=a.1++t:=by
 unfold Dq
 split
 ·rename_i k hk;obtain ⟨h1,_⟩:=tu part hk;refine ⟨hn,hl,fun p hp=> ?_,SY _,by simp,[],by simp⟩;simp only [U6,U7] at hp
  rcases hp with hp|rfl
  ·exact hr p hp
  ·exact h1
 ·rename_i hk
  refine ⟨?_,fun s hs=> ?_,fun p hp=> ?_,by simp,by simp,_,rfl⟩
  ·rw [Vu,List.map_singleton,Vv];refine ⟨hn,by simp,fun x hx y hy=> ?_⟩;simp only [U7] at hy;subst hy;rintro rfl;exact (Dr part).1 hk hx
  ·simp only [U6,U7] at hs
   rcases hs with hs|rfl
   ·exact hl s hs
   ·exact he
  ·simp only [U6,U7,Tb,Vx] at hp ⊢
   rcases hp with hp|rfl
   ·have:=hr p hp;omega
   ·simp
theorem pL {n:Nat} {order:List Nat} (hn:(order.map (fun s=>part.getD s 0)).Nodup) (hl: ∀s∈order,s<n): ∀row:a7,(∀p∈row,p.2<n) ->
  ((dz part order row).1.map (fun s=>part.getD s 0)).Nodup∧(∀s∈(dz part order row).1,s<n)∧(∀p∈(dz part order row).2,p.2<(dz part order row).1.length)∧order.length<=(dz part order row).1.length ∧
  (dz part order row).2.map Prod.fst=row.map Prod.fst∧ ∃t,(dz part order row).1=order++t:=by
 refine jF (fun _=>⟨hn,hl,by simp [dz],SY _,by simp [dz],[],by simp [dz]⟩) ?_;intro row e ih hr;obtain ⟨h1,h2,h3,h4,h5,t,h6⟩:=ih (fun p hp=>hr p (List.mem_append_left _ hp));obtain ⟨k1,k2,k3,k4,k5,t2,k6⟩:=Lq part (hr e (by simp)) h1 h2 h3;rw [<-k9] at k1 k2 k3 k4 k5 k6;exact ⟨k1,k2,k3,by omega,by rw [k5,h5,Vu];rfl,t++t2,by rw [k6,h6,TB]⟩
theorem mR {n:Nat} {order:List Nat} (hn:(order.map (fun s=>part.getD s 0)).Nodup) (hl: ∀s∈order,s<n):order.length<=n:=by
 have h1:order.Nodup:=by
  rw [List.Nodup,Vr] at hn ⊢;intro i j hi hj hij e
  have:=hn i j (by simpa using hi) (by simpa using hj) hij
  simp only [Vs,e] at this;exact this rfl
 have:=h1.length_le_of_subset (l₂:=List.range n) (fun s hs=>Uj.2 (hl s hs))
 simpa using this
theorem Ge (h:0<rows.length):Ed rows part q0:=⟨by simp [q0],by simp [q0],by simpa [q0] using h,rfl,fun k hk=>by simp [q0] at hk⟩
theorem e7 {α:Type} {l:List α} {a d:α} {i:Nat} (h:i<l.length):(l++[a]).getD i d=l.getD i d:=by
 rw [T3,S8 h,T3]
theorem dv {α:Type} {l:List α} {a d:α}:(l++[a]).getD l.length d=a:=by
 rw [T3,TD (SY _)];simp
theorem cw {α:Type} {l t:List α} {d:α} {i:Nat} (h:i<l.length):(l++t).getD i d=l.getD i d:=by
 rw [T3,S8 h,T3]
theorem bM {α:Type} {l:List α} {d:α} {i:Nat} (h:i<l.length):l.getD i d∈l:=by
 rw [T3,List.getElem?_eq_getElem h];exact List.getElem_mem h
theorem rm {st:vT} (hT: ∀r∈rows, ∀p∈r,p.2<rows.length) (h:Ed rows part st) (h1:st.rows.length<st.order.length):Ed rows part (fe rows ends part st):=by
 have hc:gN st<rows.length:=h.lt _ (bM h1);obtain ⟨k1,k2,k3,k4,k5,t,k6⟩:=pL part (n:=rows.length) h.nd h.lt (rows.getD (gN st) []) (hT _ (bM hc))
 refine ⟨?_,k1,k2, ?_,fun k hk=> ?_⟩
 ·simp only [fe,Tb,Vx];omega
 ·simp only [fe,Tb,Vx,h.ends]
 ·simp only [fe,Tb,Vx] at hk ⊢
  rcases S9 k st.rows.length with q|q
  ·obtain ⟨q1,q2⟩:=h.row k q;rw [e7 q,k6,cw (by omega)];exact ⟨q1,fun p hp=>by have:=q2 p hp;simp only [Tb];omega⟩
  ·obtain rfl:k=st.rows.length:=by omega
   rw [dv];refine ⟨?_,k3⟩;rw [k5,k6,cw h1];rfl
theorem Bp (hT: ∀r∈rows, ∀p∈r,p.2<rows.length): ∀(f:Nat) {st:vT},Ed rows part st->rows.length+1<=f+st.rows.length->Ed rows part (mW rows ends part f st)∧(mW rows ends part f st).rows.length=(mW rows ends part f st).order.length
 | 0,st,h,hf=>by
  have:=mR part h.nd h.lt;have:=h.le;omega
 | f+1,st,h,hf=>by
  rw [mW]
  split
  ·rename_i h1;exact Bp hT f (rm rows ends part hT h h1) (by simp only [fe,Tb,Vx];omega)
  ·exact ⟨h,by have:=h.le;omega⟩
end
end
section
def look (row:a7) (l:ByteArray):Option Nat:=(row.find? (fun p=>dp l p.1)).map Prod.snd
def r6 (rows:List a7) (s:Nat):List ByteArray->Option Nat
 | []=>some s
 | l :: w=>match look (rows.getD s []) l with
  | some t=>r6 rows t w
  | none=>none
def cR (rows:List a7) (ends:List Bool) (s:Nat) (w:List ByteArray):Bool:=match r6 rows s w with
 | some t=>ends.getD t false
 | none=>false
theorem nZ {row:a7} {l:ByteArray}:look row l=none↔l∉row.map Prod.fst:=by
 rw [look,Option.map_eq_none_iff,List.find?_eq_none]
 constructor
 ·intro h hm;obtain ⟨p,hp,rfl⟩:=List.mem_map.1 hm;exact h p hp (lC.2 rfl)
 ·intro h p hp he;rw [lC] at he;subst he;exact h (List.mem_map_of_mem hp)
theorem xl {row:a7} {l:ByteArray} {t:Nat} (h:look row l=some t):(l,t)∈row:=by
 rw [look,Option.map_eq_some_iff] at h;obtain ⟨p,h1,rfl⟩:=h;have h2:=List.find?_some h1;rw [lC] at h2;subst h2;exact List.mem_of_find?_eq_some h1
theorem iK {row r2:a7} {l:ByteArray}:look (row++r2) l=(look row l).or (look r2 l):=by
 simp only [look,List.find?_append];cases row.find? (fun p=>dp l p.1)<;>rfl
theorem iL {m l:ByteArray} {t:Nat}:look [(m,t)] l=if l=m then some t else none:=by
 by_cases h:l=m
 ·subst h;simp [look,lC.2 rfl]
 ·have:dp l m=false:=by
   cases hh:dp l m
   ·rfl
   ·exact absurd (lC.1 hh) h
  simp [look,this,h]
theorem IW {row:a7} (hn:(row.map Prod.fst).Nodup) {l:ByteArray} {t:Nat} (h:(l,t)∈row):look row l=some t:=by
 induction row with
 | nil=>simp at h
 | cons a row ih=>
  rw [List.map_cons,List.nodup_cons] at hn
  rcases List.mem_cons.1 h with rfl|h
  ·simp [look,lC.2 rfl]
  ·have hne:dp l a.1=false:=by
    cases hh:dp l a.1
    ·rfl
    ·rw [lC] at hh;subst hh;exact absurd (List.mem_map_of_mem h) hn.1
   have:=ih hn.2 h
   simpa [look,hne] using this
section
variable (cg:List Nat->ByteArray->List Nat) (em:Bool) (la:List Nat)
def Eh (ae:List ByteArray) (all:List (List Nat)) (cur:List Nat) (row:a7):Prop:=
 ∀l,(l∈ae->cg cur l≠[]-> ∃k,look row l=some k∧all[k]? = some (cg cur l))∧((l∉ae∨cg cur l=[])->look row l=none)
theorem Eh.mono {ae:List ByteArray} {all t:List (List Nat)} {cur:List Nat} {row:a7} (h:Eh cg ae all cur row):Eh cg ae (all++t) cur row:=fun l=>
 ⟨fun h1 h2=>by
  obtain ⟨k,k1,k2⟩:=(h l).1 h1 h2
  exact ⟨k,k1,by rw [S8 (S7.1 k2).1];exact k2⟩,(h l).2⟩
theorem Gu (cur:List Nat) {all:List (List Nat)}: ∀ae:List ByteArray,ae.Nodup->Eh cg ae (gh cg cur all ae).1 cur (gh cg cur all ae).2:=by
 refine jF (fun _ l=>⟨fun h=>by simp at h,fun _=>by simp [gh,look]⟩) ?_;intro ae m ih hn l;have hn':=List.nodup_append.1 hn;have ih:=ih hn'.1;have hm:m∉ae:=fun h=>hn'.2.2 m h m (by simp) rfl;rw [lj,Bq]
 by_cases he:cg cur m=[]
 ·rw [if_pos he]
  refine ⟨fun h1 h2=> ?_,fun h1=> ?_⟩
  ·rcases List.mem_append.1 h1 with h1|h1
   ·exact (ih l).1 h1 h2
   ·simp only [U7] at h1;subst h1;exact absurd he h2
  ·by_cases hl:cg cur l=[]
   ·exact (ih l).2 (.inr hl)
   ·rcases h1 with h1|h1
    ·exact (ih l).2 (.inl (fun q=>h1 (List.mem_append_left _ q)))
    ·exact absurd h1 hl
 ·rw [if_neg he]
  have nl:l≠m->(l∈ae++[m]↔l∈ae):=fun h=>by simp [h]
  split
  ·rename_i k hk;obtain ⟨hk1,hk2⟩:=rj hk;rw [List.getElem_map] at hk2;have hk3:=Fq hk2;rw [List.length_map] at hk1
   refine ⟨fun h1 h2=> ?_,fun h1=> ?_⟩
   ·rw [iK,iL]
    by_cases hlm:l=m
    ·subst hlm;exact ⟨k,by rw [(ih l).2 (.inl hm),if_pos rfl];rfl,by rw [List.getElem?_eq_getElem hk1,hk3]⟩
    ·obtain ⟨j,j1,j2⟩:=(ih l).1 ((nl hlm).1 h1) h2;exact ⟨j,by rw [j1];rfl,j2⟩
   ·rw [iK,iL]
    have hlm:l≠m:=fun e=>by subst e;rcases h1 with h1|h1<;>simp_all
    rw [if_neg hlm,(ih l).2 (h1.imp (fun q r=>q ((nl hlm).2 r)) id)];rfl
  ·refine ⟨fun h1 h2=> ?_,fun h1=> ?_⟩
   ·rw [iK,iL]
    by_cases hlm:l=m
    ·subst hlm;exact ⟨_,by rw [(ih l).2 (.inl hm),if_pos rfl];rfl,by rw [List.getElem?_append_right (Nat.le_refl _)];simp⟩
    ·obtain ⟨j,j1,j2⟩:=(ih l).1 ((nl hlm).1 h1) h2;exact ⟨j,by rw [j1];rfl,by rw [S8 (S7.1 j2).1];exact j2⟩
   ·rw [iK,iL]
    have hlm:l≠m:=fun e=>by subst e;rcases h1 with h1|h1<;>simp_all
    rw [if_neg hlm,(ih l).2 (h1.imp (fun q r=>q ((nl hlm).2 r)) id)];rfl
structure SW (ae:List ByteArray) (st:mj):Prop where
 zero:st.all[0]? = some [0]
 row: ∀i,i<st.rows.length->Eh cg ae st.all (st.all.getD i []) (st.rows.getD i [])
 Cr: ∀i,i<st.rows.length->st.ends.getD i false=((i==0&&em)||(st.all.getD i []).any (fun p=>la.contains p))
theorem Jy {ae:List ByteArray} (hn:ae.Nodup) {st:mj} (ho:BV ae st) (h:SW cg em la ae st) (h1:st.rows.length<st.all.length):SW cg em la ae (cN cg em la ae st):=by
 obtain ⟨_,_,_,_,_,t,k6⟩:=vn cg (cur:=dL st) ho.nd ae;have hr:=Gu cg (dL st) (all:=st.all) ae hn
 have hg: ∀i,i<st.all.length->(cN cg em la ae st).all.getD i []=st.all.getD i []:=fun i hi=>by simp only [cN,k6];exact cw hi
 refine ⟨?_,fun i hi=> ?_,fun i hi=> ?_⟩
 ·simp only [cN,k6];rw [S8 (by omega)];exact h.zero
 ·have hi':i<st.rows.length+1:=by simpa [cN] using hi
  rw [hg i (by omega)]
  rcases Nat.lt_or_ge i st.rows.length with q|q
  ·simp only [cN,k6,e7 q];exact (h.row i q).mono
  ·obtain rfl:i=st.rows.length:=by omega
   simp only [cN,dv];exact hr
 ·have hi':i<st.rows.length+1:=by simpa [cN] using hi
  rw [hg i (by omega)]
  rcases Nat.lt_or_ge i st.rows.length with q|q
  ·simp only [cN];rw [e7 (by rw [ho.ends];exact q)];exact h.Cr i q
  ·obtain rfl:i=st.rows.length:=by omega
   simp only [cN];rw [<-ho.ends,dv,xP,dL,ho.ends]
theorem Gw {ae:List ByteArray} (hn:ae.Nodup): ∀(f:Nat) {st st':mj},BV ae st->SW cg em la ae st->mZ cg em la ae f st=some st'->SW cg em la ae st'
 | 0,st,st',_,h,e=>by simp only [mZ,Ti] at e;subst e;exact h
 | f+1,st,st',ho,h,e=>by
  rw [mZ] at e
  split at e
  ·rename_i h1
   split at e
   ·cases e
   ·rename_i h2;exact Gw hn f (ru cg em la ho h1 h2) (Jy cg em la hn ho h h1) e
  ·cases e;exact h
theorem Bu {ae:List ByteArray} (hn:ae.Nodup) {st:mj} (h:rz cg em la ae=some st):BV ae st∧st.rows.length=st.all.length∧SW cg em la ae st:=by
 have ho:=Br cg em la 257 (Lw ae) (by simp [s0]) h;exact ⟨ho.1,ho.2,Gw cg em la hn 257 (Lw ae) ⟨rfl,fun i hi=>by simp [s0] at hi,fun i hi=>by simp [s0] at hi⟩ h⟩
def Made (a:List Nat):Prop:=a≠[]∧(a=[0]∨ ∃cur l,a=cg cur l)
theorem tD {cur:List Nat} {all:List (List Nat)} (h: ∀a∈all,Made cg a): ∀ae:List ByteArray, ∀a∈(gh cg cur all ae).1,Made cg a:=by
 refine jF h ?_;intro ae l ih;rw [lj,Bq]
 split
 ·exact ih
 ·rename_i hne
  split
  ·exact ih
  ·intro a ha
   rcases List.mem_append.1 ha with ha|ha
   ·exact ih a ha
   ·simp only [U7] at ha;subst ha;exact ⟨hne, .inr ⟨_,_,rfl⟩⟩
theorem tE {ae:List ByteArray}: ∀(f:Nat) {st st':mj},(∀a∈st.all,Made cg a)->mZ cg em la ae f st=some st'-> ∀a∈st'.all,Made cg a
 | 0,st,st',h,e=>by simp only [mZ,Ti] at e;subst e;exact h
 | f+1,st,st',h,e=>by
  rw [mZ] at e
  split at e
  ·split at e
   ·cases e
   ·exact tE f (tD cg h ae) e
  ·cases e;exact h
theorem DD {ae:List ByteArray} {st:mj} (h:rz cg em la ae=some st): ∀a∈st.all,Made cg a:=tE cg em la 257 (fun a ha=>by
 simp only [s0,U7] at ha;subst ha;exact ⟨by simp, .inl rfl⟩) h
variable {cg em la}
theorem wS (ha: ∀l,cg [] l=[]): ∀w:List ByteArray,w.foldl cg []=[]
 | []=>rfl
 | l :: w=>by rw [UG,ha,wS ha w]
theorem rA {ae:List ByteArray} {st:mj} (hl:st.rows.length=st.all.length) (hw:SW cg em la ae st) (ha: ∀l,cg [] l=[]) (hx: ∀cur l,l∉ae->cg cur l=[]): ∀(w:List ByteArray) (i:Nat) (cur:List Nat),st.all[i]? = some cur->cur≠[] ->
  (w.foldl cg cur=[]->r6 st.rows i w=none)∧(w.foldl cg cur≠[]-> ∃k,r6 st.rows i w=some k∧st.all[k]? = some (w.foldl cg cur))
 | [],i,cur,hi,hc=>⟨fun h=>absurd h hc,fun _=>⟨i,rfl,hi⟩⟩
 | l :: w,i,cur,hi,hc=>by
  have hlt:=(S7.1 hi).1;have hr:=hw.row i (by omega) l;rw [T3 (l:=st.all),hi,Vy] at hr;rw [r6,UG]
  by_cases he:cg cur l=[]
  ·rw [hr.2 (.inr he),he,wS ha];exact ⟨fun _=>rfl,fun h=>absurd rfl h⟩
  ·have hm:l∈ae:=Classical.byContradiction fun h=>he (hx cur l h);obtain ⟨k,k1,k2⟩:=hr.1 hm he;rw [k1];exact rA hl hw ha hx w k _ k2 he
theorem DB {ae:List ByteArray} {st:mj} (hl:st.rows.length=st.all.length) (hw:SW cg em la ae st) (ha: ∀l,cg [] l=[]) (hx: ∀cur l,l∉ae->cg cur l=[]) (w:List ByteArray) {i:Nat} {cur:List Nat} (hi:st.all[i]? = some cur) (hc:cur≠[]) {q:Nat} (hq:q∈w.foldl cg cur) (hq2:q∈la):cR st.rows st.ends i w=true:=by
 obtain ⟨k,k1,k2⟩:=(rA hl hw ha hx w i cur hi hc).2 (List.ne_nil_of_mem hq);rw [cR,k1];simp only;rw [hw.Cr k (by rw [hl];exact (S7.1 k2).1),T3,k2,Vy]
 have:(w.foldl cg cur).any (fun p=>la.contains p)=true:=List.any_eq_true.2 ⟨q,hq,by simpa using hq2⟩
 rw [this,Bool.or_true]
theorem Ag {ae:List ByteArray} {st:mj} (hl:st.rows.length=st.all.length) (hw:SW cg em la ae st) (ha: ∀l,cg [] l=[]) (hx: ∀cur l,l∉ae->cg cur l=[]) (h0: ∀cur l,0∉cg cur l) (hl0:0∉la) (w:List ByteArray) :
  cR st.rows st.ends 0 w=((w.length==0&&em)||(w.foldl cg [0]).any (fun p=>la.contains p)):=by
 obtain ⟨h1,h2⟩:=rA hl hw ha hx w 0 [0] hw.zero (by simp)
 by_cases he:w.foldl cg [0]=[]
 ·rw [cR,h1 he,he]
  cases w with
  | nil=>simp at he
  | cons l w=>rfl
 ·obtain ⟨k,k1,k2⟩:=h2 he;rw [cR,k1];simp only;have hk:=(S7.1 k2).1;rw [hw.Cr k (by omega),T3,k2,Vy]
  cases w with
  | nil=>
   simp only [r6,Ti] at k1;subst k1
   rfl
  | cons l w=>
   have hne:k≠0:=fun e=>by
    subst e
    have:=hw.zero.symm.trans k2
    simp only [Ti] at this
    have hh: ∀(w:List ByteArray) (cur:List Nat),0∉cur->0∉w.foldl cg cur:=fun w=>by
     induction w with
     | nil=>exact fun cur h=>h
     | cons m w ih=>exact fun cur h=>ih _ (h0 _ _)
    exact hh w (cg [0] l) (h0 _ _) (by rw [UG] at this;rw [<-this];simp)
   have:(k==0)=false:=by simpa using hne
   rw [this];rfl
end
end
end Go.Proofs.YtlhhccmopfamhaaGreatDoor
