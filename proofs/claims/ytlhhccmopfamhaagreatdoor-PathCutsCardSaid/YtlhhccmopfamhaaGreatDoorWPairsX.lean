/- texts of one claim, one behind the other. -/
import Derived.Test.YtlhhccmopfamhaaGreatDoorWPairsW
import Derived.Test.YtlhhccmopfamhaaGreatDoorWHeapP
import Derived.Test.YtlhhccmopfamhaaGreatDoorWRelG
import Derived.WideKeyEntry
import Derived.Test.YtlhhccmopfamhaaGreatDoorWAbsCut
import Derived.Test.YtlhhccmopfamhaaGreatDoorWLabels
set_option linter.unusedSimpArgs false
set_option linter.unusedVariables false
set_option maxRecDepth 100000
set_option maxHeartbeats 16000000
open Array renaming toList_push -> V5, toList_modify -> V6
open Bool renaming and_self -> UM, and_true -> Um, true_and -> Us, not_eq_eq_eq_not -> UR, true_or -> V1, false_or -> V2, false_eq_true -> Uw
open Go.ChangeMaps renaming modify_eq_set -> V7
open Go.WideElems renaming findIdx_arr -> V3, findIdx_born -> V4
open List renaming length_cons -> Tc, length_nil -> S6, replicate_succ -> UN, replicate_zero -> UO, cons_append -> UP, nil_append -> UQ, foldl_cons -> UG, foldl_nil -> UH, take_of_length_le -> V0, map_cons -> Vd, mem_cons -> Uv, not_mem_nil -> VS, map_nil -> Vq, getElem?_cons_zero -> Ud, getElem?_cons_succ -> UD, mem_of_getElem? -> TI, getElem?_eq_some_iff -> S7, take_succ_eq_append_getElem -> VB, take_length -> Wa
open Nat renaming zero_le -> Te, mul_le_mul -> V9
open Option renaming map_some -> TG, map_none -> V8
open Option.some renaming injEq -> Ti
namespace Go.Proofs.YtlhhccmopfamhaaGreatDoor
open Go.RowKit
section
mutual
def qX:Ex->Nat->Nat
 | .mk _ _ l,deep=>if 60<deep then 61 else qL l (deep+1) 1
def qL:List Ex->Nat->Nat->Nat
 | [],_,n=>n
 | x :: xs,d,n=>if n<=60 then qL xs d (n+qX x d) else n
end
theorem Bo: ∀(l:List Ex) (d n k:Nat) (h:k<l.length),qL (l.take k) d n<=60->qL (l.take (k+1)) d n=qL (l.take k) d n+qX l[k] d
 | [],_,_,_,h,_=>by simp at h
 | x :: xs,d,n,0,_,hn=>by
  simp only [List.take_zero,qL] at hn ⊢;simp [qL,hn]
 | x :: xs,d,n,k+1,h,hn=>by
  simp only [List.take_succ_cons,qL,List.getElem_cons_succ] at hn ⊢
  by_cases hc:n<=60
  ·rw [if_pos hc] at hn ⊢;rw [if_pos hc];exact Bo xs d _ k (by simpa using h) hn
  ·rw [if_neg hc] at hn;omega
theorem Bn: ∀(l:List Ex) (d n k:Nat),60<qL (l.take k) d n->qL l d n=qL (l.take k) d n
 | [],_,_,_,_=>by simp
 | x :: xs,d,n,0,hn=>by
  simp only [List.take_zero,qL] at hn ⊢;rw [if_neg (by omega)]
 | x :: xs,d,n,k+1,hn=>by
  simp only [List.take_succ_cons,qL] at hn ⊢
  by_cases hc:n<=60
  ·rw [if_pos hc] at hn ⊢;rw [if_pos hc];exact Bn xs d _ k hn
  ·rw [if_neg hc,if_neg hc]
mutual
theorem Gh: ∀(x:Ex) (d:Nat),d<=61->1<=qX x d∧qX x d<=61+60 * (61 - d)
 | .mk _ _ l,d,h=>by
  rw [qX]
  split
  ·omega
  ·have:=zW l (d+1) 1 (by omega);omega
theorem zW: ∀(l:List Ex) (d n:Nat),d<=61->n<=qL l d n∧qL l d n<=max n (121+60 * (61 - d))
 | [],d,n,h=>by rw [qL];omega
 | x :: xs,d,n,h=>by
  rw [qL]
  split
  ·have h1:=Gh x d h;have h2:=zW xs d (n+qX x d) h;omega
  ·omega
end
theorem Cs (x:Ex): ∀d:Nat,d<=61->af Tryz.prog 26 [.agg (bH x), .v (.int .i64 d)] (.v (.int .i64 (qX x d:Nat))):=by
 induction x using Ex.ind with
 | h k s l ih=>
  intro d hd61;simp only [aS,qX,Ex.kind,Ex.label,Ex.kids]
  by_cases hdd:60<d
  ·rw [if_pos hdd];have hd0:decide (60<(d:Int))=true:=decide_eq_true (by omega)
   (refine af.enter Tryz.func26 rfl (by kernel_rfl) (by kernel_rfl) rfl (by first|rfl|(simp only [go_sem,UM,Um,Us])) (by first|rfl|(simp only [go_sem,UM,Um,Us])) ?_;simp only [Tryz.ntmps26,Tryz.results26,Tc,S6,Nat.reduceAdd,Nat.reduceSub,UN,UO,UP,UQ])
   repeat (first|(with_reducible first|refine ag.up ?_|refine fun (K:AK) hK=> ?_|(refine hK _ ?_;clear hK K))|simp only [go_sem,hd0]|with_reducible refine wA ?_|clear hK K)
   rfl
  ·rw [if_neg hdd];have hd0:decide (60<(d:Int))=false:=decide_eq_false (by omega);have eD:=aD (k:=d) (by omega)
   (refine af.enter Tryz.func26 rfl (by kernel_rfl) (by kernel_rfl) rfl (by first|rfl|(simp only [go_sem,UM,Um,Us])) (by first|rfl|(simp only [go_sem,UM,Um,Us])) ?_;simp only [Tryz.ntmps26,Tryz.results26,Tc,S6,Nat.reduceAdd,Nat.reduceSub,UN,UO,UP,UQ])
   repeat (first|(with_reducible first|refine ag.up ?_|refine fun (K:AK) hK=> ?_|(refine hK _ ?_;clear hK K))|simp only [go_sem,hd0]|with_reducible refine wA ?_|clear hK K)
   refine cI (ι:=Nat) 9 (fun i=>[(5, .v (.int .i64 (qL (l.take i) (d+1) 1:Nat))),(6, .v (.int .i64 i))]) (fun i=>l.length - i) (fun i=>i<=l.length∧i+1<=qL (l.take i) (d+1) 1) 0 ⟨Te _,Nat.le_refl _⟩ ?_ ?_
   ·(refine aq ?_ ?_ ?_<;>simp only [aG,UG,UH,UN,UO,bd,bj,AV.v.injEq,Value.int.injEq,Value.bool.injEq,Value.string.injEq,AV.vec.injEq,AV.ptr.injEq,true_or,or_true,false_or,or_false,aa.mk.injEq,forall_eq_apply_imp_iff,forall_eq,forall_eq',go_sem])
    exact ⟨rfl,rfl⟩
   rintro i ⟨hi,hin⟩ K hK;have hr:=zW (l.take i) (d+1) 1 (by omega)
   repeat (first|(with_reducible first|refine ag.up ?_|refine fun (K:AK) hK=> ?_|(refine hK _ ?_;clear hK K))|simp only [go_sem]|with_reducible refine wA ?_|clear hK K)
   refine fU.part (fun h=> ?_) (fun h=> ?_)
   ·have hlt:i<l.length:=by (try simp only [bne_iff_ne,ne_eq,bne_eq_false_iff_eq,beq_iff_eq,beq_eq_false_iff_ne,decide_eq_true_eq,decide_eq_false_iff_not,UR,Int.natCast_inj,Int.ofNat_lt,Int.ofNat_le] at h);omega
    by_cases hb2:qL (l.take i) (d+1) 1<=60
    ·have eW:=aD (k:=i) (by omega);have eG:=getD_map bH l i [] hlt;have HX:=ih l[i] (List.getElem_mem hlt) (d+1) (by omega);have eT:=Bo l (d+1) 1 i hlt hb2;have hr2:=Gh l[i] (d+1) (by omega);have hd:decide (((qL (l.take i) (d+1) 1:Nat):Int)<=60)=true:=decide_eq_true (by omega)
     have eS:IntKind.i64.wrap (((qL (l.take i) (d+1) 1:Nat):Int)+((qX l[i] (d+1):Nat):Int))=((qL (l.take (i+1)) (d+1) 1:Nat):Int):=by rw [dQ (by omega) (by omega),eT];omega
     simp only [aS] at HX eG
     repeat (first|(with_reducible first|refine ag.up ?_|refine fun (K:AK) hK=> ?_|(refine hK _ ?_;clear hK K))|simp only [go_sem,hd,h,eG,aS,eD]|with_reducible refine wA ?_|clear hK K)
     refine ab.one HX ?_
     repeat (first|(with_reducible first|refine ag.up ?_|refine fun (K:AK) hK=> ?_|(refine hK _ ?_;clear hK K))|simp only [go_sem,eS,eW]|with_reducible refine wA ?_|clear hK K)
     exact aP.mk (i+1) ⟨by omega,by omega⟩ (by omega) (by (refine aq ?_ ?_ ?_<;>simp only [aG,UG,UH,UN,UO,bd,bj,AV.v.injEq,Value.int.injEq,Value.bool.injEq,Value.string.injEq,AV.vec.injEq,AV.ptr.injEq,true_or,or_true,false_or,or_false,aa.mk.injEq,forall_eq_apply_imp_iff,forall_eq,forall_eq',go_sem]))
    ·have eT:=Bn l (d+1) 1 i (by omega);have hd:decide (((qL (l.take i) (d+1) 1:Nat):Int)<=60)=false:=decide_eq_false (by omega)
     repeat (first|(with_reducible first|refine ag.up ?_|refine fun (K:AK) hK=> ?_|(refine hK _ ?_;clear hK K))|simp only [go_sem,hd,h]|with_reducible refine wA ?_|clear hK K)
     rw [eT]
   ·have e1:l.take i=l:=by rw [show i=l.length by (try simp only [bne_iff_ne,ne_eq,bne_eq_false_iff_eq,beq_iff_eq,beq_eq_false_iff_ne,decide_eq_true_eq,decide_eq_false_iff_not,UR,Int.natCast_inj,Int.ofNat_lt,Int.ofNat_le] at h);omega,List.take_length]
    repeat (first|(with_reducible first|refine ag.up ?_|refine fun (K:AK) hK=> ?_|(refine hK _ ?_;clear hK K))|simp only [go_sem,e1,h]|with_reducible refine wA ?_|clear hK K)
def Ff (E:List aV):Bool:=(E.take 30).any (fun e=>decide (30<e.props.length))
def Fe (x:Ex) (E:List aV):Bool:=Ff E||(decide (60<qX x 0)||decide (30<E.length))
theorem IK {x:Ex} {E:List aV} (h:Fe x E=false):E.length<=30∧ ∀e∈E,e.props.length<=30:=by
 simp only [Fe,Bool.or_eq_false_iff,decide_eq_false_iff_not] at h;obtain ⟨h1, -,h3⟩:=h;refine ⟨by omega,fun e he=> ?_⟩;rw [Ff,V0 (by omega)] at h1
 have:=List.any_eq_false.1 h1 e he
 simpa using this
theorem Cz (x:Ex) (E:List aV) (hl:E.length<=140737488355328):af Tryz.prog 8 [.agg (bH x), .aI 5 (E.map bu) E.length] (.v (.bool (Fe x E))):=by
 have SZ:=Cs x 0 (by omega);rw [Fe];simp only [aS] at SZ ⊢
 (refine af.enter Tryz.func8 rfl (by kernel_rfl) (by kernel_rfl) rfl (by first|rfl|(simp only [go_sem,UM,Um,Us])) (by first|rfl|(simp only [go_sem,UM,Um,Us])) ?_;simp only [Tryz.ntmps8,Tryz.results8,Tc,S6,Nat.reduceAdd,Nat.reduceSub,UN,UO,UP,UQ])
 repeat (first|(with_reducible first|refine ag.up ?_|refine fun (K:AK) hK=> ?_|(refine hK _ ?_;clear hK K))|simp only [go_sem]|with_reducible refine wA ?_|clear hK K)
 refine cI (ι:=Nat) 5 (fun i=>[(5, .v (.int .i64 i))]) (fun i=>30 - i) (fun i=>i<=E.length∧i<=30∧Ff (E.take i)=false) 0 ⟨Te _,Te _,rfl⟩ ?_ ?_
 ·(refine aq ?_ ?_ ?_<;>simp only [aG,UG,UH,UN,UO,bd,bj,AV.v.injEq,Value.int.injEq,Value.bool.injEq,Value.string.injEq,AV.vec.injEq,AV.ptr.injEq,true_or,or_true,false_or,or_false,aa.mk.injEq,forall_eq_apply_imp_iff,forall_eq,forall_eq',go_sem])
  all_goals first|rfl|trace_state
 ·rintro i ⟨hi,h30,hg⟩ K hK
  by_cases h:i<E.length∧i<30
  ·obtain ⟨h1,h2⟩:=h;have d1:decide ((i:Int)<(E.length:Int))=true:=decide_eq_true (by omega);have d2:decide ((i:Int)<30)=true:=decide_eq_true (by omega);have e1:=getD_map bu E i [] h1;simp only [bu] at e1;have ws:=aD (k:=i) (by omega)
   have hs:Ff (E.take (i+1))=(Ff (E.take i)||decide (30<E[i].props.length)):=by
    have t1:(E.take (i+1)).take 30=E.take (i+1):=V0 (by rw [List.length_take];omega);have t2:(E.take i).take 30=E.take i:=V0 (by rw [List.length_take];omega);rw [Ff,Ff,t1,t2,List.take_succ_eq_append_getElem h1,List.any_append];simp
   by_cases hb:30<E[i].props.length
   ·have d3:decide (30<(E[i].props.length:Int))=true:=decide_eq_true (by omega)
    have hall:Ff E=true:=by
     rw [Ff,List.any_eq_true];exact ⟨E[i],by rw [List.mem_take_iff_getElem];exact ⟨i,by omega,rfl⟩,decide_eq_true hb⟩
    rw [hall,V1]
    repeat (first|(with_reducible first|refine ag.up ?_|refine fun (K:AK) hK=> ?_|(refine hK _ ?_;clear hK K))|simp only [go_sem,d1,d2,e1,d3]|with_reducible refine wA ?_|clear hK K)
   ·have d3:decide (30<(E[i].props.length:Int))=false:=decide_eq_false (by omega)
    repeat (first|(with_reducible first|refine ag.up ?_|refine fun (K:AK) hK=> ?_|(refine hK _ ?_;clear hK K))|simp only [go_sem,d1,d2,e1,d3,ws]|with_reducible refine wA ?_|clear hK K)
    exact aP.mk (i+1) ⟨h1,h2,by rw [hs,hg,decide_eq_false hb];rfl⟩ (by omega) (by (refine aq ?_ ?_ ?_<;>simp only [aG,UG,UH,UN,UO,bd,bj,AV.v.injEq,Value.int.injEq,Value.bool.injEq,Value.string.injEq,AV.vec.injEq,AV.ptr.injEq,true_or,or_true,false_or,or_false,aa.mk.injEq,forall_eq_apply_imp_iff,forall_eq,forall_eq',go_sem]))
  ·have hgE:Ff E=false:=by
    have:E.take 30=(E.take i).take 30:=by
     rw [List.take_take]
     rcases Nat.lt_or_ge i 30 with q|q
     ·rw [V0 (show E.length<=30 by omega),V0 (by omega)]
     ·rw [show min 30 i=30 by omega]
    rw [Ff,this];exact hg
   by_cases h1:i<E.length
   ·have d1:decide ((i:Int)<(E.length:Int))=true:=decide_eq_true (by omega);have d2:decide ((i:Int)<30)=false:=decide_eq_false (by omega)
    repeat (first|(with_reducible first|refine ag.up ?_|refine fun (K:AK) hK=> ?_|(refine hK _ ?_;clear hK K))|simp only [go_sem,d1,d2]|with_reducible refine wA ?_|clear hK K)
    refine ab.one SZ ?_
    by_cases hq:60<qX x 0
    ·have q1:decide (60<((qX x 0:Nat):Int))=true:=decide_eq_true (by omega)
     repeat (first|(with_reducible first|refine ag.up ?_|refine fun (K:AK) hK=> ?_|(refine hK _ ?_;clear hK K))|simp only [go_sem,q1]|with_reducible refine wA ?_|clear hK K)
     rw [decide_eq_true hq,V1,Bool.or_true]
    ·have q1:decide (60<((qX x 0:Nat):Int))=false:=decide_eq_false (by omega)
     have q2:decide (30<(E.length:Int))=decide (30<E.length):=by rw [decide_eq_decide];omega
     repeat (first|(with_reducible first|refine ag.up ?_|refine fun (K:AK) hK=> ?_|(refine hK _ ?_;clear hK K))|simp only [go_sem,q1,q2]|with_reducible refine wA ?_|clear hK K)
     rw [decide_eq_false hq,V2,hgE,V2]
   ·have d1:decide ((i:Int)<(E.length:Int))=false:=decide_eq_false (by omega)
    repeat (first|(with_reducible first|refine ag.up ?_|refine fun (K:AK) hK=> ?_|(refine hK _ ?_;clear hK K))|simp only [go_sem,d1]|with_reducible refine wA ?_|clear hK K)
    refine ab.one SZ ?_
    by_cases hq:60<qX x 0
    ·have q1:decide (60<((qX x 0:Nat):Int))=true:=decide_eq_true (by omega)
     repeat (first|(with_reducible first|refine ag.up ?_|refine fun (K:AK) hK=> ?_|(refine hK _ ?_;clear hK K))|simp only [go_sem,q1]|with_reducible refine wA ?_|clear hK K)
     rw [decide_eq_true hq,V1,Bool.or_true]
    ·have q1:decide (60<((qX x 0:Nat):Int))=false:=decide_eq_false (by omega)
     have q2:decide (30<(E.length:Int))=decide (30<E.length):=by rw [decide_eq_decide];omega
     repeat (first|(with_reducible first|refine ag.up ?_|refine fun (K:AK) hK=> ?_|(refine hK _ ?_;clear hK K))|simp only [go_sem,q1,q2]|with_reducible refine wA ?_|clear hK K)
     rw [decide_eq_false hq,V2,hgE,V2]
theorem Gx (L:PL) (hl:L.length<=1000000):af Tryz.prog 15 [.aI 3 (L.map cd) L.length, .aI 3 (L.map cd) L.length] (.v (.bool true)):=by
 have eN:(L.map cd).length=L.length:=by simp
 (refine af.enter Tryz.func15 rfl (by kernel_rfl) (by kernel_rfl) rfl (by first|rfl|(simp only [go_sem,UM,Um,Us])) (by first|rfl|(simp only [go_sem,UM,Um,Us])) ?_;simp only [Tryz.ntmps15,Tryz.results15,Tc,S6,Nat.reduceAdd,Nat.reduceSub,UN,UO,UP,UQ])
 repeat (first|(with_reducible first|refine ag.up ?_|refine fun (K:AK) hK=> ?_|refine wD ?_|(refine hK _ ?_;clear hK K))|simp only [go_sem]|with_reducible refine wA ?_|clear hK K)
 refine cI (ι:=Nat) 5 (fun i=>[(5, .v (.int .i64 i))]) (fun i=>L.length - i) (fun i=>i<=L.length) 0 (Te _) ?_ ?_
 ·(refine aq ?_ ?_ ?_<;>simp only [aG,UG,UH,UN,UO,bd,bj,AV.v.injEq,Value.int.injEq,Value.bool.injEq,Value.string.injEq,AV.vec.injEq,AV.ptr.injEq,true_or,or_true,false_or,or_false,aa.mk.injEq,forall_eq_apply_imp_iff,forall_eq,forall_eq',go_sem])
  all_goals first|rfl|exact iY _ _|trace_state
 ·rintro i hi K hK
  rcases Nat.lt_or_ge i L.length with h|h
  ·have d1:decide ((i:Int)<(L.length:Int))=true:=decide_eq_true (by omega);have e1:=getD_map cd L i [] h;simp only [cd] at e1;have ws:=aD (k:=i) (by omega);generalize L[i]=p at *
   repeat (first|(with_reducible first|refine ag.up ?_|refine fun (K:AK) hK=> ?_|refine wD ?_|(refine hK _ ?_;clear hK K))|simp only [go_sem,d1,e1,eN,beq_self_eq_true,bne_self_eq_false,Bool.not_true,ws]|with_reducible refine wA ?_|clear hK K)
   exact aP.mk (i+1) h (by omega) (by (refine aq ?_ ?_ ?_<;>simp only [aG,UG,UH,UN,UO,bd,bj,AV.v.injEq,Value.int.injEq,Value.bool.injEq,Value.string.injEq,AV.vec.injEq,AV.ptr.injEq,true_or,or_true,false_or,or_false,aa.mk.injEq,forall_eq_apply_imp_iff,forall_eq,forall_eq',go_sem]);all_goals exact iY _ _)
  ·have d1:decide ((i:Int)<(L.length:Int))=false:=decide_eq_false (by omega)
   repeat (first|(with_reducible first|refine ag.up ?_|refine fun (K:AK) hK=> ?_|refine wD ?_|(refine hK _ ?_;clear hK K))|simp only [go_sem,d1,beq_self_eq_true]|with_reducible refine wA ?_|clear hK K)
theorem K9 (k:Int) (rows:List (List AV)) (n:Nat) (hw:bQ 0 rows=true):af Tryz.prog 22 [.v (.int .i64 k), .aI 3 rows n] (.agg [.v (.int .i64 k), .v (.string ⟨#[]⟩), .aI 3 rows n]):=by
 (refine af.enter Tryz.func22 rfl (by kernel_rfl) (by kernel_rfl) rfl (by simp only [go_sem,ba,AV.wf,UM,Um,Us,hw]) (by simp only [go_sem,ba,AV.wf,dc,UM,Um,Us,hw]) ?_;simp only [Tryz.ntmps22,Tryz.results22,Tc,S6,Nat.reduceAdd,Nat.reduceSub,UN,UO,UP,UQ])
 repeat' (first|(with_reducible first|refine ag.up ?_|refine fun (K:AK) hK=> ?_|(refine hK _ ?_;clear hK K))|simp only [go_sem]|clear hK K|(with_reducible refine ab.one (by assumption) ?_)|(with_reducible refine bt.one (by assumption) ?_)|(refine fU.part (fun hb=> ?_) (fun hb=> ?_)<;>simp only [hb,go_sem])|(refine fU.part (fun hb=> ?_) (fun hb=> ?_))|(with_reducible refine jI.mk ?_ ?_))
 refine nq.of 40 rfl ?_;simp only [go_sem,hw]
theorem CX (s:ByteArray):af Tryz.prog 21 [.v (.string s)] (.agg [.v (.int .i64 1), .v (.string s), .v (.slice none 0 0)]):=by
 (refine af.enter Tryz.func21 rfl (by kernel_rfl) (by kernel_rfl) rfl (by first|rfl|(simp only [go_sem,UM,Um,Us])) (by first|rfl|(simp only [go_sem,UM,Um,Us])) ?_;simp only [Tryz.ntmps21,Tryz.results21,Tc,S6,Nat.reduceAdd,Nat.reduceSub,UN,UO,UP,UQ])
 repeat' (first|(with_reducible first|refine ag.up ?_|refine fun (K:AK) hK=> ?_|(refine hK _ ?_;clear hK K))|simp only [go_sem]|clear hK K|(with_reducible refine ab.one (by assumption) ?_)|(with_reducible refine bt.one (by assumption) ?_)|(refine fU.part (fun hb=> ?_) (fun hb=> ?_)<;>simp only [hb,go_sem])|(refine fU.part (fun hb=> ?_) (fun hb=> ?_))|(with_reducible refine jI.mk ?_ ?_))
 (refine nq.of 40 rfl ?_;simp only [go_sem])
theorem xU (a b l:ByteArray) (t:Int):af Tryz.prog 20 [.v (.string a), .v (.string b), .v (.string l), .v (.int .i64 t)] (.agg [.v (.string a), .v (.string b), .v (.string l), .v (.int .i64 t), .v (.slice none 0 0)]):=by
 (refine af.enter Tryz.func20 rfl (by kernel_rfl) (by kernel_rfl) rfl (by first|rfl|(simp only [go_sem,UM,Um,Us])) (by first|rfl|(simp only [go_sem,UM,Um,Us])) ?_;simp only [Tryz.ntmps20,Tryz.results20,Tc,S6,Nat.reduceAdd,Nat.reduceSub,UN,UO,UP,UQ])
 repeat' (first|(with_reducible first|refine ag.up ?_|refine fun (K:AK) hK=> ?_|(refine hK _ ?_;clear hK K))|simp only [go_sem]|clear hK K|(with_reducible refine ab.one (by assumption) ?_)|(with_reducible refine bt.one (by assumption) ?_)|(refine fU.part (fun hb=> ?_) (fun hb=> ?_)<;>simp only [hb,go_sem])|(refine fU.part (fun hb=> ?_) (fun hb=> ?_))|(with_reducible refine jI.mk ?_ ?_))
 (refine nq.of 40 rfl ?_;simp only [go_sem])
section
variable {P:Program}
def yG (l:List Oper) (d:Nat->Bool):Prop:= ∀j i,i<l.length->d j=true->az l.toArray j i=true->d i=true
def jo (d:Nat->Bool) (k:Nat):Nat->Bool:=fun j=>if j=k then true else d j
def K8 (P:Program) (l:List Oper) (val:Nat->Value) (W:(Nat->Bool)->World) (Q:Act->World->Prop):List Oper->Nat->((Nat->Value)->Act)->Prop
 | [],k,A=> ∀x d,(∀i,i<k->x i=val i∧d i=true)->Q (A x) (W d)
 | o :: rest,k,A=>(∀x d,yG l d->d k=false->(∀i,i<l.length->az l.toArray k i=true->x i=val i∧d i=true)->Region.wanted o (yielded l.toArray (A x).tmps)=true ∧
   ((execOp (A x).eval o).run P (W d) = .ok (.value (val k)) (W (jo d k))∨((execOp (A x).eval o).run P (W d) = .ok .skip (W (jo d k))∧val k=Go.undef)))∧K8 P l val W Q rest (k+1) (fun x=>(A x).put o.dst (x k))
def wC (l:List Oper) (W:(Nat->Bool)->World):jW:=
 ⟨{ d:Nat->Bool // yG l d },fun g=>W g.1,fun g g'=> ∀j,g.1 j=true->g'.1 j=true,fun _ _ h=>h,fun _ _ _ h k j hj=>k j (h j hj),fun j g=>g.1 j=false⟩
def GF (l:List Oper) (W:(Nat->Bool)->World) (val:Nat->Value) (i:Nat):fI (wC l W):=⟨fun v g=>v=val i∧g.1 i=true,fun v g g' hR h=>⟨h.1,hR i h.2⟩⟩
theorem P2 {l:List Oper} {W:(Nat->Bool)->World} {val:Nat->Value} {i:Nat} (h:i<l.length):uq ((List.range l.length).map (GF l W val)) i=GF l W val i:=by
 simp [uq,List.getD_eq_getElem?_getD,h]
theorem FV {l:List Oper} {val:Nat->Value} {W:(Nat->Bool)->World} {Q:Act->World->Prop} (g0:(wC l W).G): ∀(rest:List Oper) (k:Nat) (A:(Nat->Value)->Act),l.drop k=rest->k<=l.length->K8 P l val W Q rest k A->Db P l.toArray ((List.range l.length).map (GF l W val)) g0 Q rest k A
 | [],k,A,hl,hk,h=>fun x g _ hs=>h x g.1 (fun i hi=>by
   have:=hs i hi
   rw [P2 (by omega)] at this
   exact this)
 | o :: rest,k,A,hl,hk,h=>by
  have hkl:k<l.length:=by have:=congrArg List.length hl;simp at this;omega
  refine ⟨fun x g _ hs hp=> ?_,FV g0 rest (k+1) _ (by rw [<-List.drop_drop,hl];rfl) (by omega) h.2⟩
  have hd: ∀i,i<l.length->az l.toArray k i=true->x i=val i∧g.1 i=true:=fun i hi hdep=>by
   have:=hs i hdep
   rw [P2 hi] at this;exact this
  obtain ⟨hw,hr⟩:=h.1 x g.1 g.2 hp hd
  have hins:yG l (jo g.1 k):=fun j i hi hj hdep=>by
   simp only [jo] at hj ⊢
   split
   ·rfl
   ·split at hj
    ·rename_i q;subst q;exact (hd i hi hdep).2
    ·exact g.2 j i hi hj hdep
  have hR:(wC l W).R g ⟨jo g.1 k,hins⟩:=fun j hj=>by
   simp only [jo];split
   ·rfl
   ·exact hj
  have hP: ∀i,i≠k->(wC l W).pre i g->(wC l W).pre i ⟨jo g.1 k,hins⟩:=fun i hi hh=>by
   show jo g.1 k i=false;simp only [jo,if_neg hi];exact hh
  have hS:jo g.1 k k=true:=by simp [jo]
  refine .inl ⟨hw, ?_⟩;rw [P2 hkl]
  rcases hr with hr|⟨hr,hv⟩
  ·have e:(execOp (A x).eval o).run P ((wC l W).wd g) = .ok (.value (val k)) (W (jo g.1 k)):=hr;rw [e];exact ⟨⟨jo g.1 k,hins⟩,rfl,hR,hP,rfl,hS⟩
  ·have e:(execOp (A x).eval o).run P ((wC l W).wd g) = .ok .skip (W (jo g.1 k)):=hr;rw [e];exact ⟨⟨jo g.1 k,hins⟩,rfl,hR,hP,hv.symm,hS⟩
theorem HY {Q:Exit->Act->World->Prop} {a:Act} {w:World} {l:List Oper} (hB:mX l.toArray=true) (val:Nat->Value) (W:(Nat->Bool)->World) (hW:W (fun _=>false)=w.drew) (h:K8 P l val W (Q .normal) l 0 (fun _=>a)) :
  wpAny P .any l.toArray Q l.toArray.size (Array.replicate l.toArray.size false) a w.drew:=
 fu (N:=wC l W) _ hB ⟨fun _=>false,fun _ _ _ h=>by cases h⟩ hW (fun _=>rfl) (FV _ l 0 _ rfl (Te _) h)
variable {D:Nat->Prop} {nu:Nat->Nat->Value} {o:List (Option aa)} {w:World}
theorem pU {ks:List FK} {k:List AV} {x:AV} (hw:fX ks k k=some true): ∀ {rows:List (List AV)},fK ks k rows=some none->fK ks k (rows++[[.agg k,x]])=some (some x)
 | [],_=>by rw [UQ,fK,hw]
 | row :: l,h=>by
  unfold fK at h
  split at h
  ·cases ‹row :: l=[]›
  ·rename_i k' y l' e1;cases e1;rw [UP,fK]
   split at h
   ·cases h
   ·exact pU hw h
   ·cases h
  ·cases h
theorem pX {ks:List FK} {k:List AV} {x:AV}: ∀ {rows:List (List AV)},fK ks k rows=some none->gW ks k x rows=some (rows++[[.agg k,x]])
 | [],_=>rfl
 | row :: l,h=>by
  unfold fK at h
  split at h
  ·cases ‹row :: l=[]›
  ·rename_i k' y l' e1;cases e1;rw [gW]
   split at h
   ·cases h
   ·rw [pX h];rfl
   ·cases h
  ·cases h
theorem Gz {g:Nat} {es:Array MapEntry} {cl:Nat} (hb:w.heap[g]? = some (.map es cl)):{ w with heap:=w.heap.setIfInBounds g (.map es cl) }=w:=by
 have:w.heap.setIfInBounds g (.map es cl)=w.heap:=by
  apply Array.ext_getElem?
  intro i;rw [Array.getElem?_setIfInBounds]
  split
  ·rename_i e;subst e;split
   ·exact hb.symm
   ·rename_i q;exact (Array.getElem?_eq_none (by omega)).symm
  ·rfl
 rw [this]
theorem y4 {es:Array MapEntry} (h: ∀(i j:Nat) e e',es[i]? = some e->es[j]? = some e'->i<j->e.born<e'.born):(es.toList.map (·.born)).Nodup:=by
 rw [List.nodup_iff_pairwise_ne,List.pairwise_map,List.pairwise_iff_getElem];intro i j hi hj hij
 have:=h i j es.toList[i] es.toList[j] (by simp at hi;simp [hi]) (by simp at hj;simp [hj]) hij
 omega
theorem M5 {T kt et:TypeId} {ks:List FK} {id:Nat} {ob:aa} {k:List AV} {kx vx zx nx:Value} {rows':List (List AV)} {m:Value} (h:RO D nu o w) (hm:RA D nu o w (.vec id 0) m) (hk:RA D nu o w (.agg k) kx) (hu:P.underlying T=some (.map kt et)) (ht:gS P kt=some ks) (ho:o[id]? = some (some ob)) (hV:ob.dj=false) (hz:ob.z=0) (hw:fX ks k k=some true)
  (hl:iA P et ks ob.rows k false=some (.v vx)) (hzx:oL P et=some (.v zx)) (hs:gW ks k (.v nx) ob.rows=some rows') :
  ∃(w1 w2:World) (st:Value),(Instr.lookup T m kx false).run P w = .ok vx w∧(Instr.mapEntry T m kx).run P w = .ok (.tuple #[vx,st]) w1∧(Instr.lookup T m kx false).run P w1 = .ok vx w1∧(Instr.entryStore T m st nx).run P w1 = .ok () w2 ∧
   bl nu o w nu (o.set id (some { ob with rows:=rows' })) w2∧RO D nu (o.set id (some { ob with rows:=rows' })) w2:=by
 have hmk:mr P T o (.vec id 0)=some (kt,et,id,ob):=by simp only [mr,hu,ho]
 obtain ⟨w',hrun,hmono,hro⟩:=gd h hm hk (.v nx) hmk ht hV hz hw hs;have hup:=fun x rows1 (hs1:gW ks k (.v x) ob.rows=some rows1)=>gd h hm hk (.v x) hmk ht hV hz hw hs1;obtain ⟨g,es,cl,_,_,rfl,hmp⟩:=lM h hm hmk hV hz
 have hsz:es.toList.length=ob.rows.length:=by simpa using hmp.sz
 have hck:=fun em=>za (P:=P) ht hk hw em;have hb:=hmp.cZ;have hgl:=(Array.getElem?_eq_some_iff.1 hb).1;have hidl:=(List.getElem?_eq_some_iff.1 ho).1;obtain ⟨lv,hlr,hlx⟩:=lL hu ht hk hb hmp.sz hmp.key hmp.val hl;rw [hlx.bZ] at hlr;have hnd:=y4 hmp.jT;unfold iA at hl;rw [if_pos hw] at hl;have hkey: ∀(j:Nat) row c e,ob.rows[j]? = some row->row[0]? = some c->es.toList[j]? = some e->RA D nu o w c e.key:=fun j row c e q1 q2 q3=>hmp.key j row c e q1 q2 (by simpa using q3)
 rcases lN ht hk ob.rows es.toList 0 rows' hsz hkey hs with ⟨rfl,hf⟩|⟨j,e,rfl,hf,q5,q6,q7⟩
 ·have hq:fK ks k ob.rows=some none:=by
   cases hq:fK ks k ob.rows with
   | none=>rw [hq] at hl;cases hl
   | some q=>
    rcases lK ht hk ob.rows es.toList 0 q hsz hkey hq with ⟨rfl,_⟩|⟨j,c',e,row,rfl,hf',_⟩
    ·rfl
    ·rw [hf] at hf';cases hf'
  rw [hq] at hl;simp only [hzx,Option.some.injEq,if_false,Bool.false_eq_true,AV.v.injEq] at hl;subst hl;obtain ⟨zv,hzr,hzv⟩:=jg (D:=D) (nu:=nu) (o:=o) (w:=w) hzx;rw [hzv.bZ] at hzr;obtain ⟨w1,hr1,hm1,hro1⟩:=hup zx _ (pX hq)
  have e1:w1={ w with heap:=w.heap.setIfInBounds g (.map (es.push ⟨kx,zx,cl⟩) (cl+1)) }:=by
   simp [Instr.mapUpdate,run_underlying hu,MapKept.run_getObj_map hb,hck,bz ht,hf,MapKept.run_setObj_map _ hb,Result.andThen] at hr1;exact hr1.symm
  have e2:w'={ w with heap:=w.heap.setIfInBounds g (.map (es.push ⟨kx,nx,cl⟩) (cl+1)) }:=by
   simp [Instr.mapUpdate,run_underlying hu,MapKept.run_getObj_map hb,hck,bz ht,hf,MapKept.run_setObj_map _ hb,Result.andThen] at hrun;exact hrun.symm
  have hb1:w1.heap[g]? = some (.map (es.push ⟨kx,zx,cl⟩) (cl+1)):=by rw [e1];exact (MapKept.heap_set (w:=w) (o':= .map (es.push ⟨kx,zx,cl⟩) (cl+1)) hb).1
  refine ⟨w1,w',goInt cl,hlr, ?_, ?_, ?_,hmono,hro⟩
  ·rw [e1];simp [Instr.mapEntry,run_underlying hu,MapKept.run_getObj_map hb,hck,bz ht,hf,hzr,MapKept.run_setObj_map _ hb,Result.andThen]
  ·have hl1:nC P T (o.set id (some { ob with rows:=ob.rows++[[.agg k, .v zx]] })) (.vec id 0) k false=some (ob.dj=false∧ob.z=0, .v zx):=by
    simp only [nC,hu,ht,List.getElem?_set_self hidl,iA,if_pos hw,pU hw hq]
    rfl
   obtain ⟨v,h1,h2⟩:=oJ hro1 (hm.mono hm1 (fun _ _ h=>h)) (hk.mono hm1 (fun _ _ h=>h)) hl1 ⟨hV,hz⟩;rw [h2.bZ] at h1;exact h1
  ·have hidx:(es.push ⟨kx,zx,cl⟩).findIdx? (fun e=>((e.born:Nat):Int)==((cl:Nat):Int))=some es.size:=by
    rw [V3];refine V4 (l:=(es.push ⟨kx,zx,cl⟩).toList) (j:=es.size) (e0:=⟨kx,zx,cl⟩) ?_ (by simp);simp only [V5,List.map_append,List.map_cons,List.map_nil];refine List.nodup_append.2 ⟨hnd,by simp,fun a ha c hc e1=> ?_⟩;simp only [List.mem_singleton] at hc;obtain ⟨x,hx,rfl⟩:=List.mem_map.1 ha;obtain ⟨i,hi⟩:=List.getElem?_of_mem hx
    have:=hmp.born i x (by simpa using hi)
    omega
   have hmod:(es.push ⟨kx,zx,cl⟩).modify es.size (fun e=>{ e with val:=nx })=es.push ⟨kx,nx,cl⟩:=by
    apply Array.ext'
    rw [V6,V5,V5, <- Array.length_toList,Go.WideElems.modify_last]
   rw [e2];simp [Instr.entryStore,MapKept.run_getObj_map hb1,asInt,asIntOf,goInt,hidx,hmod,MapKept.run_setObj_map _ hb1,Result.andThen];rw [e1];simp
 ·have hj:es[j]? = some e:=by simpa using q5
  rw [Nat.zero_add] at hf
  have hvx:vx=e.val:=by
   simp [Instr.lookup,run_underlying hu,MapKept.run_getObj_map hb,hck,bz ht,hf,Result.andThen] at hlr;exact hlr.symm
  have hsame:es.modify j (fun e=>{ e with key:=kx })=es:=by
   apply Array.ext'
   rw [V6,V7 _ _ _ _ q5]
   have:({ e with key:=kx }:MapEntry)=e:=by rw [<-q6]
   rw [this];exact Go.WideElems.set_self _ _ _ q5
  have hmod:es.modify j (fun e=>{ e with val:=nx })=es.modify j (fun e'=>{ e' with key:=kx,val:=nx }):=by
   apply Array.ext'
   rw [V6,V6,V7 _ _ _ _ q5,V7 _ _ _ _ q5, <- q6]
  have hidx:es.findIdx? (fun e=>((e.born:Nat):Int)==((e.born:Nat):Int))=es.findIdx? (fun e=>((e.born:Nat):Int)==((e.born:Nat):Int)):=rfl
  have hidx:es.findIdx? (fun e'=>((e'.born:Nat):Int)==((e.born:Nat):Int))=some j:=by
   rw [V3];exact V4 hnd q5
  have e2:w'={ w with heap:=w.heap.setIfInBounds g (.map (es.modify j (fun e'=>{ e' with key:=kx,val:=nx })) cl) }:=by
   simp [Instr.mapUpdate,run_underlying hu,MapKept.run_getObj_map hb,hck,bz ht,hf,hj,q6,q7,MapKept.run_setObj_map _ hb,Result.andThen] at hrun;exact hrun.symm
  refine ⟨w,w',goInt e.born,hlr, ?_,hlr, ?_,hmono,hro⟩
  ·simp [Instr.mapEntry,run_underlying hu,MapKept.run_getObj_map hb,hck,bz ht,hf,hj,q6,q7,hsame,MapKept.run_setObj_map _ hb,Result.andThen,hvx];exact Gz hb
  ·rw [e2];simp [Instr.entryStore,MapKept.run_getObj_map hb,asInt,asIntOf,goInt,hidx,hmod,MapKept.run_setObj_map _ hb,Result.andThen]
theorem fc {a:Act} {d:Tmp} {v:Value} (h:d<a.tmps.size):(a.put (some d) v).eval (.tmp d)=v:=by
 simp [Act.put,Act.eval,h]
theorem fb {a:Act} {d t:Tmp} {v:Value} (h:d≠t):(a.put (some d) v).eval (.tmp t)=a.eval (.tmp t):=Act.eval_put fun e he hx=>by cases he;cases hx;exact h rfl
theorem b0 {a:Act} {dst:Option Tmp} {v:Value}:(a.put dst v).tmps.size=a.tmps.size:=by
 cases dst<;>simp [Act.put]
end
end
def dm (done:List (Nd×Int)):List (Nd×Int):=done.map (fun p=>(p.1,1))
theorem ET (n:Nd): ∀done:List (Nd×Int),bB (dm done) n=if n∈done.map Prod.fst then some 1 else none
 | []=>rfl
 | p :: l=>by
  rw [dm,Vd,bB]
  by_cases h:p.1=n
  ·rw [if_pos h,if_pos (by simp [h])]
  ·rw [if_neg h]
   have:=ET n l
   rw [dm] at this;rw [this];have h': ¬n=p.1:=fun e=>h e.symm;simp only [Vd,Uv,h',false_or]
theorem EU {n:Nd} {τ:Int}: ∀ {done:List (Nd×Int)},n∉done.map Prod.fst->fY (dm done) n 1=dm (done++[(n,τ)])
 | [],_=>rfl
 | p :: l,h=>by
  rw [Vd,Uv,not_or] at h;rw [dm,Vd,fY,if_neg (Ne.symm h.1)]
  have:=EU (τ:=τ) h.2
  rw [dm] at this;rw [this];rfl
def lA (S:DS):Prop:= ∀x∈S.heap,0 <= -x.1∧ -x.1<=1099511627776
theorem Jv {st:Nat->ByteArray->Option Nat} {a:Nd} {time:Int} {S:DS} {e:aV} (h:lA S) (ht:0<=time∧time<=1099511627776) (he:0<=e.time∧e.time<=1099511627776):lA (pw st a time S e):=by
 unfold pw
 split
 ·exact h
 ·split
  ·intro x hx
   rcases List.mem_append.1 ((fA _ _).mem_iff.1 hx) with q|q
   ·exact h x q
   ·rw [List.mem_singleton] at q;subst q;simp only;omega
  ·exact h
theorem xV {st:Nat->ByteArray->Option Nat} {E:List aV} {a:Nd} {time:Int} {S:DS} (h:lA S) (ht:0<=time∧time<=1099511627776) (hE: ∀e∈E,0<=e.time∧e.time<=1099511627776):lA (jU st E a time S):=by
 have key: ∀(l:List aV) (S:DS),(∀e∈l,e∈E)->lA S->lA (l.foldl (pw st a time) S):=by
  intro l
  induction l with
  | nil=>exact fun S _ h=>h
  | cons e l ih=>exact fun S hl h=>ih _ (fun e he=>hl e (List.mem_cons_of_mem _ he)) (Jv h ht (hE e (hl e List.mem_cons_self)))
 exact key _ S (fun e he=>(fP.1 he).1) h
theorem GK {st:Nat->ByteArray->Option Nat} {E:List aV} {a:Nd} {time:Int} {S:DS}:(jU st E a time S).heap.length<=S.heap.length+(gw E a.1).length:=by
 have key: ∀(l:List aV) (S:DS),(l.foldl (pw st a time) S).heap.length<=S.heap.length+l.length:=by
  intro l
  induction l with
  | nil=>exact fun S=>Nat.le_refl _
  | cons e l ih=>
   intro S;have h1:=ih (pw st a time S e)
   have h2:(pw st a time S e).heap.length<=S.heap.length+1:=by
    unfold pw
    split
    ·omega
    ·split
     ·have:=(fA S.heap (-(min time e.time),(S.nodes.length:Int))).length_eq
      simp at this;simp only;omega
     ·omega
   simp only [UG,Tc];omega
 exact key _ S
theorem Jm {S:DS} (h:lA S) (hne:S.heap≠[]):lA S.pop:=fun x hx=>h x ((fE hne).2 (.inr hx))
def Cq (p:Nd×Int):List AV:=[.agg (bG p.1), .v (.int .i64 p.2)]
def vM (S:DS) (q:Nat):List (Option aa):=[some ⟨108,0,false,bq bG S.known⟩,some ⟨108,1,false,[[.vec 0 0]]⟩,some ⟨79,2,true,S.nodes.map bG⟩,some ⟨109,1,false,[[.vec 2 S.nodes.length]]⟩,
 some ⟨162,2,false,[[.vec (if S.heap=[] then 5 else q) S.pop.heap.length, .v (.bool true)]]⟩,(if S.heap=[] then some ⟨115,2,true,S.pop.heap.map aC⟩ else none),some ⟨110,1,false,[[.ptr 4 0 2 0 0]]⟩]
def GS (S:DS):Option aa:=if S.heap=[] then none else some ⟨115,2,true,S.pop.heap.map aC⟩
def da (done:List (Nd×Int)):Option aa:=some ⟨107,0,false,bq bG (dm done)⟩
theorem G4 (S:DS): ∀ob,some ob∈iR S->bQ 7 ob.rows=true:=fun ob h=>by
 simp only [iR,Uv,Ti,VS,or_false] at h
 rcases h with rfl|rfl|rfl|rfl|rfl|rfl|rfl
 ·exact cA _ _
 ·rfl
 ·exact fS _ _
 ·rfl
 ·rfl
 ·exact aw _ _
 ·rfl
theorem ab.cg {A:nt} {E:List aV} {G:List (ByteArray×List aV)} {a:Nd} {time:Int} {S:DS} {post:List (Option aa)} {K:AV->List (Option aa)->Prop} (hG: ∀v,(lu G v).getD []=gw E v) (hn:S.heap.length+E.length<=999999) (hnn:S.nodes.length+E.length<=999999) (ht:0<=time∧time<=1099511627776) (hE: ∀e∈E,0<=e.time∧e.time<=1099511627776)
  (k:K (.ct []) (iR (jU (iS A) E a time S)++post)):ab Tryz.prog 54 [.agg (bG a), .v (.int .i64 time), .vp [.vp (bV A), .mp (dB G)], .ptr 1 0 1 0 0, .ptr 6 0 1 0 0, .ptr 3 0 1 0 0] (iR S++post) K:=by
 have hol:=pI E a.1;refine ab.sub (Bw A E G a time S (hG a.1) (by omega) (by omega) ht (fun e he=>hE e (fP.1 he).1)) rfl ?_ (G4 _) (G4 _) rfl k;simp only [bG,ba,AV.wf,dq,fT,Bool.and_true];rfl
def G7 (S:DS):Option aa:=some ⟨115,2,false,[aC (ax S.heap 0)]⟩
def IM (S:DS) (done:List (Nd×Int)) (pre:Bool):List (Option aa):=if pre then vM S 10++[da done,none,none,GS S,G7 S] else vM S 11++[da done,G7 S,none,none,GS S]
def Ki (pre:Bool):Nat:=if pre then 11 else 8
theorem ab.Ll {S:DS} {post:List (Option aa)} {K:AV->List (Option aa)->Prop} (hl:S.heap.length<=1000000)
  (k:K (.ct [.agg (aC (ax S.heap 0)), .v (.bool (decide (S.heap≠[])))]) (vM S (9+post.length)++post++[none,none,GS S])):ab Tryz.prog 58 [.ptr 4 0 2 0 0] (iR S++post) K:=by
 have eI: ∀f l,bI f (List.map aC l)=List.map aC l:=fun f l=>bc _ _ (aw _ _)
 have hlen:(iR S++post).length=7+post.length:=by simp [iR];omega
 by_cases hne:S.heap=[]
 ·rw [decide_eq_false (by simp [hne])] at k;have P:=aR.pad Lk 3
  refine ab.fr [4,5] P (by simp) ?_ rfl rfl ?_ ?_
  ·simp only [iR,hne];rfl
  ·intro j ob hj
   match j,hj with
   | 0,hj=>cases hj;rfl
   | 1,hj=>cases hj;rfl
   | j+2,hj=>simp [l5] at hj
  ·rw [hlen]
   have e:dE (sig [4,5] (7+post.length)) [4,5] (l5 []++List.replicate 3 none) (iR S++post)=vM S (9+post.length)++post++[none,none,GS S]:=by
    have ep:jS ([]:List de)=[]:=rfl;simp only [dE,iR,vM,GS,DS.pop,l5,hne,ep,if_true,Vq,S6,Vd,UP,List.set_cons_zero,List.set_cons_succ,TG,V8,aa.aO,bI,bo,AV.aO,List.append_assoc,UQ,UN,UO];rfl
   rw [e];rw [hne] at k;exact k
 ·rw [decide_eq_true hne] at k;have P:=No S.heap hne hl
  refine ab.fr [4,5] P (by simp) ?_ rfl rfl ?_ ?_
  ·simp only [iR,l5,Vd,Vq,UP,Ud,UD,TG,aa.aO,bI,bo,AV.aO,eI];rfl
  ·intro j ob hj
   match j,hj with
   | 0,hj=>cases hj;rfl
   | 1,hj=>cases hj;exact aw _ _
   | j+2,hj=>simp [l5] at hj
  ·rw [hlen]
   have e:dE (sig [4,5] (7+post.length)) [4,5] [some ⟨162,2,false,[[.vec 4 (jS S.heap).length, .v (.bool true)]]⟩,none,none,none,some ⟨115,2,true,(jS S.heap).map aC⟩] (iR S++post)=vM S (9+post.length)++post++[none,none,GS S]:=by
    have e2:sig [4,5] (7+post.length) 4=9+post.length:=by simp [sig];omega
    simp only [dE,iR,vM,GS,if_neg hne,Vd,Vq,UP,List.set_cons_zero,List.set_cons_succ,TG,V8,aa.aO,bI,bo,AV.aO,eI,e2,List.append_assoc,UQ];rfl
   rw [e];exact k
theorem Iu {st:Nat->ByteArray->Option Nat} {E:List aV} (hE: ∀e∈E,0<=e.time∧e.time<=1099511627776) (root:ByteArray):lA (ES st E root):=xV (fun x h=>by cases h) ⟨by decide,Int.le_refl _⟩ hE
theorem Dw (A:nt) (E:List aV) (G:List (ByteArray×List aV)) (root:ByteArray) (hG: ∀v,(lu G v).getD []=gw E v) (hE: ∀e∈E,0<=e.time∧e.time<=1099511627776) (hl:E.length<=31) (n:Nat) (hn:n<=32) (hst: ∀s l t,iS A s l=some t->t<n) :
  nz Tryz.prog 52 [.vp [.vp (bV A), .mp (dB G)], .vp [.v (.string root)]] [] ((rN (iS A) n E root).map Cq):=by
 have ST:=fun a time S=>Bw A E G a time S (hG a.1);have hol:=fun v=>pI E v;have NW:=Ni;simp only [l5] at NW
 (refine nz.enter Tryz.func52 rfl (by kernel_rfl) (by kernel_rfl) rfl (fun l=> ?_);simp only [Tryz.ntmps52,Tryz.results52,Tc,S6,Nat.reduceAdd,Nat.reduceSub,UN,UO,UP,UQ])
 repeat (first|(with_reducible first|refine ag.up ?_|refine fun (K:AK) hK=> ?_|(refine hK _ ?_;clear hK K))|simp only [go_sem]|with_reducible refine wA ?_|clear hK K)
 refine ab.fr [] NW List.nodup_nil rfl rfl rfl (fun k ob h=>by simp at h) ?_
 repeat (first|(with_reducible first|refine ag.up ?_|refine fun (K:AK) hK=> ?_|(refine hK _ ?_;clear hK K))|simp only [go_sem]|with_reducible refine wA ?_|clear hK K)
 have e0:([some ⟨108,0,false,[]⟩,some ⟨108,1,false,[[.vec 0 0]]⟩,some ⟨79,2,true,[]⟩,some ⟨109,1,false,[[.vec 2 0]]⟩,some ⟨162,2,false,[[.vec 5 0, .v (.bool true)]]⟩,some ⟨115,2,true,[]⟩,some ⟨110,1,false,[[.ptr 4 0 2 0 0]]⟩]:List (Option aa))=iR ⟨[],[],[]⟩++[]:=rfl;have hS0:jU (iS A) E (root,0) y0 ⟨[],[],[]⟩=ES (iS A) E root:=rfl;refine ab.cg (S:=⟨[],[],[]⟩) (a:=(root,0)) (time:=1099511627776) (post:=[]) hG (by simp;omega) (by simp;omega) (by omega) hE ?_;have hb: ∀e∈E,e.time<=y0:=fun e he=>(hE e he).2;obtain ⟨hDL,hRP⟩:=AP (n:=n) hst hb root;have hT0:=Iu (st:=iS A) hE root;have hcand: ∀e∈E, ∀s t,iS A s e.label=some t->(e.to,t)∈ib n E:=j8 hst
 have hcl:(ib n E).length<=992:=by rw [sF];exact V9 hl hn
 have hF:MU (iS A) n E root<=900000:=by
  have h1:(ES (iS A) E root).heap.length<=0+(gw E root).length:=GK;have h2:(ib n E).length * (E.length+1)<=992 * 32:=V9 hcl (by omega);have h3:=hol root;unfold MU;omega
 rw [rN];rw [show jU (iS A) E (root,0) 1099511627776 ⟨[],[],[]⟩=ES (iS A) E root from rfl];generalize MU (iS A) n E root=F at *;generalize ES (iS A) E root=S0 at *;simp only [iR,UP,UQ]
 repeat (first|(with_reducible first|refine ag.up ?_|refine fun (K:AK) hK=> ?_|(refine hK _ ?_;clear hK K))|simp only [go_sem]|with_reducible refine wA ?_|clear hK K)
 have hF0:=hDL.fuel;refine ab.Ll (S:=S0) (post:=[da []]) (by omega) ?_;simp only [vM,UP,UQ,Tc,S6,Nat.reduceAdd,aC]
 repeat (first|(with_reducible first|refine ag.up ?_|refine fun (K:AK) hK=> ?_|(refine hK _ ?_;clear hK K))|simp only [go_sem]|with_reducible refine wA ?_|clear hK K)
 refine nI (ι:=DS×List (Nd×Int)×Nat×Bool) 8 (fun x=>[(8, .vec 7 0),(9, .ptr (Ki x.2.2.2) 0 2 0 0),(10, .v (.bool (decide (x.1.heap≠[]))))]) (fun x=>IM x.1 x.2.1 x.2.2.2) (fun x=> .run l ((fm (iS A) E x.2.2.1 x.1 (x.2.1.map Prod.fst)).map Cq)) (fun x=>x.2.2.1)
  (fun x=>DL (iS A) E root (ib n E) x.2.2.1 x.1 x.2.1∧lA x.1∧x.2.2.1<=F) (S0,[],F,true) ⟨hDL,hT0,Nat.le_refl _⟩ ?_ ?_
 ·simp only [IM,vM,Ki,if_true,da,G7,aC,UP,UQ]
  (refine aq ?_ ?_ ?_<;>simp only [aG,UG,UH,UN,UO,bd,bj,AV.v.injEq,Value.int.injEq,Value.bool.injEq,Value.string.injEq,AV.vec.injEq,AV.ptr.injEq,true_or,or_true,false_or,or_false,aa.mk.injEq,forall_eq_apply_imp_iff,forall_eq,forall_eq',go_sem])
  all_goals (by_cases q:S0.heap=[]<;>simp [q,GS,aw])
 ·rintro ⟨S,done,f,pre⟩ ⟨hD,hT,hf⟩ K hK;simp only at hD hT hf ⊢
  by_cases hne:S.heap=[]
  ·have hd:decide (S.heap≠[])=false:=by simp [hne]
   rw [qk f _ hne,hd]
   cases pre
   ·simp only [IM,vM,Ki,if_false,Uw,da,G7,aC,UP,UQ,Vq]
    repeat (first|(with_reducible first|refine ag.up ?_|refine fun (K:AK) hK=> ?_|(refine hK _ ?_;clear hK K))|simp only [go_sem]|with_reducible refine wA ?_|clear hK K)
    exact .inl trivial
   ·simp only [IM,vM,Ki,if_true,da,G7,aC,UP,UQ,Vq]
    repeat (first|(with_reducible first|refine ag.up ?_|refine fun (K:AK) hK=> ?_|(refine hK _ ?_;clear hK K))|simp only [go_sem]|with_reducible refine wA ?_|clear hK K)
    exact .inl trivial
  ·rw [decide_eq_true hne]
   have hq:=hD.next hcand hne
   obtain ⟨i,nd,f',rfl,h1,h2,h3,h4⟩:=hq;have eK: ∀f (l:List (Nd×Int)),bI f (bq bG l)=bq bG l:=fun f l=>bc _ _ (cA _ _);have eI: ∀f l,bI f (List.map aC l)=List.map aC l:=fun f l=>bc _ _ (aw _ _);have eNn: ∀f l,bI f (List.map bG l)=List.map bG l:=fun f l=>bc _ _ (fS _ _);have eA: ∀f,bo f (bV A)=bV A:=fun f=>dK _ _ (dq _ _)
   refine Or.inr (we [0,1,2,3,4,if pre then 10 else 11,6,7,if pre then 11 else 8] (aG 61 [(0, .v (.func (.yield l) #[] #[])),(1, .vp [.vp (bV A), .mp (dB G)]),(2, .vp [.v (.string root)]),(4, .ptr 1 0 1 0 0),(5, .ptr 3 0 1 0 0),(6, .ptr 6 0 1 0 0),(7, .fn 54 [] [.vp [.vp (bV A), .mp (dB G)], .ptr 1 0 1 0 0, .ptr 6 0 1 0 0, .ptr 3 0 1 0 0]),(8, .vec 7 0),(9, .ptr 8 0 2 0 0),(10, .v (.bool true))])
    (iR S.pop++[da done,G7 S]) ?_ ?_ ?_ ?_ (by kernel_rfl) ?_)
   ·cases pre<;>decide
   ·have e1:(aC (ax S.heap 0)).length=2:=rfl;cases pre<;>simp only [IM,vM,iR,GS,if_neg hne,if_true,if_false,Uw,da,G7,aC,UP,UQ,Vd,Vq,Ud,UD,TG,aa.aO,bI,bo,AV.aO,eK,eI,eNn]<;>rfl
   ·intro k ob hk;have hm:=TI hk;simp only [iR,da,G7,UP,UQ,Uv,Ti,VS,or_false] at hm
    rcases hm with rfl|rfl|rfl|rfl|rfl|rfl|rfl|rfl|rfl
    ·exact cA _ _
    ·rfl
    ·exact fS _ _
    ·rfl
    ·rfl
    ·exact aw _ _
    ·rfl
    ·exact cA _ _
    ·rfl
   ·cases pre
    ·simp only [IM,vM,if_false,Uw,UP,UQ,Tc,S6];simp only [go_sem,vU,jG,bX,aG,Ki,List.foldl,sig,bo,AV.aO,true_or,or_true,eA]
    ·simp only [IM,vM,if_true,UP,UQ,Tc,S6];simp only [go_sem,vU,jG,bX,aG,Ki,List.foldl,sig,bo,AV.aO,true_or,or_true,eA]
   have k1:S.pop.nodes[i]? = some nd:=h2;have hfl:=hD.fuel;have hnl:=hD.len;have hpl:=ri hne
   have hdl:done.length<=(ib n E).length:=by
    have:=FT hD.ON hD.Qo
    simpa using this
   have hnl2:(done.length+1) * E.length<=993 * 31:=V9 (by omega) hl;have hTm:=Jm hT hne;have hkey:=hT _ ((fE hne).2 (.inl rfl))
   have hTh:S.pop.heap.length<=f'+1:=by show (jS S.heap).length<=_;omega
   have hTn:S.pop.nodes.length=S.nodes.length:=rfl;have hRn: ∀(hd:nd∉done.map Prod.fst),fm (iS A) E (f'+1) S (done.map Prod.fst)=(nd, -(ax S.heap 0).1) :: fm (iS A) E f' (jU (iS A) E nd (-(ax S.heap 0).1) S.pop) (done.map Prod.fst++[nd]):=fun hd=>sI hne h1 h2 hd;have hRo: ∀(hd:nd∈done.map Prod.fst),fm (iS A) E (f'+1) S (done.map Prod.fst)=fm (iS A) E f' S.pop (done.map Prod.fst):=fun hd=>sJ hne h1 h2 hd;simp only [G7,aC,h1];generalize (ax S.heap 0).1=key at *;generalize fm (iS A) E (f'+1) S (done.map Prod.fst)=Y at *;generalize S.pop=T at *
   have k2:(T.nodes.map bG).getD i []=[.v (.string nd.1), .v (.int .i64 (nd.2:Nat))]:=by
    have hi:=(S7.1 k1);obtain ⟨hi,rfl⟩:=hi;rw [getD_map bG T.nodes i [] hi];rfl
   have k3:(T.nodes.map bG).length=T.nodes.length:=by simp
   have k4:i<T.nodes.length:=(S7.1 k1).1
   have tt:gS Tryz.prog 79=some [.s, .i]:=by kernel_rfl
   have g1:=iI oV nd (dm done);have g3:=oV nd nd;rw [decide_eq_true rfl] at g3;rw [ET] at g1;simp only [iR,da,UP,UQ];simp only [aG,UG,UH,UN,UO,go_sem]
   by_cases hd:nd∈done.map Prod.fst
   ·rw [if_pos hd] at g1;simp only [bG,TG] at g1 g3
    have d1:decide ((0:Int)<1)=true:=by decide
    repeat ((fail_if_success (with_reducible refine b5 (i:=14) ?_));first|(with_reducible first|refine ag.up ?_|refine fun (K:AK) hK=> ?_|(refine hK _ ?_;clear hK K))|simp only [go_sem,k2,k3,g1,g3,tt,d1]|with_reducible refine wA ?_|clear hK K)
    repeat ((fail_if_success (with_reducible refine b5 (i:=8) ?_));first|(with_reducible first|refine ag.up ?_|refine fun (K:AK) hK=> ?_|(refine hK _ ?_;clear hK K))|simp only [go_sem]|with_reducible refine wA ?_|clear hK K)
    refine AM [0,1,2,3,4,5,6,7,10] (aG 61 [(0, .v (.func (.yield l) #[] #[])),(1, .vp [.vp (bV A), .mp (dB G)]),(2, .vp [.v (.string root)]),(4, .ptr 1 0 1 0 0),(5, .ptr 3 0 1 0 0),(6, .ptr 6 0 1 0 0),(7, .fn 54 [] [.vp [.vp (bV A), .mp (dB G)], .ptr 1 0 1 0 0, .ptr 6 0 1 0 0, .ptr 3 0 1 0 0]),(8, .vec 7 0),(9, .ptr 8 0 2 0 0)])
     (iR T++[da (done),some ⟨115,2,false,[[.v (.int .i64 key), .v (.int .i64 (i:Nat))]]⟩]) (by decide) ?_ ?_ ?_ (by kernel_rfl) ?_
    ·simp only [iR,da,UP,UQ,Vd,Vq,Ud,UD,TG,aa.aO,bI,bo,AV.aO,eK,eI,eNn];rfl
    ·intro k ob hk;have hm:=TI hk;simp only [iR,da,UP,UQ,Uv,Ti,VS,or_false] at hm
     rcases hm with rfl|rfl|rfl|rfl|rfl|rfl|rfl|rfl|rfl
     ·exact cA _ _
     ·rfl
     ·exact fS _ _
     ·rfl
     ·rfl
     ·exact aw _ _
     ·rfl
     ·exact cA _ _
     ·rfl
    ·simp only [Tc,S6];simp only [go_sem,vU,aG,List.foldl,sig,bo,AV.aO,true_or,or_true,eA]
    simp only [iR,da,UP,UQ];simp only [aG,UG,UH,UN,UO,go_sem]
    repeat (first|(with_reducible first|refine ag.up ?_|refine fun (K:AK) hK=> ?_|(refine hK _ ?_;clear hK K))|simp only [go_sem]|with_reducible refine wA ?_|clear hK K)
    refine ab.Ll (S:=T) (post:=[da (done),some ⟨115,2,false,[[.v (.int .i64 key), .v (.int .i64 (i:Nat))]]⟩]) (by omega) ?_;simp only [vM,UP,UQ,Tc,S6,Nat.reduceAdd,aC]
    repeat (first|(with_reducible first|refine ag.up ?_|refine fun (K:AK) hK=> ?_|(refine hK _ ?_;clear hK K))|simp only [go_sem]|with_reducible refine wA ?_|clear hK K)
    rw [hRo hd];refine aP.mk (T,done,f',false) ⟨h3 hd,hTm,(show f'<=F by omega)⟩ (Nat.lt_succ_self f') ?_;simp only [IM,vM,Ki,if_false,Uw,da,G7,aC,UP,UQ]
    (refine aq ?_ ?_ ?_<;>simp only [aG,UG,UH,UN,UO,bd,bj,AV.v.injEq,Value.int.injEq,Value.bool.injEq,Value.string.injEq,AV.vec.injEq,AV.ptr.injEq,true_or,or_true,false_or,or_false,aa.mk.injEq,forall_eq_apply_imp_iff,forall_eq,forall_eq',go_sem])
    all_goals (by_cases q:T.heap=[]<;>simp [q,GS,aw])
   ·rw [if_neg hd] at g1;simp only [bG,V8] at g1 g3
    have d1:decide ((0:Int)<0)=false:=by decide
    repeat ((fail_if_success (with_reducible refine b5 (i:=11) ?_));first|(with_reducible first|refine ag.up ?_|refine fun (K:AK) hK=> ?_|(refine hK _ ?_;clear hK K))|simp only [go_sem,k2,k3,g1,g3,tt,d1]|with_reducible refine wA ?_|clear hK K)
    refine Or.inr ?_;intro fr m D nu a w hZr hn0 hm hs hmx R hO hR;have hs':=hs.drew;have hmv:=hs'.ev (.tmp 8);have hpv:=hs'.ev (.tmp 11);simp only [AS.ev,List.getD_cons_succ,List.getD_cons_zero] at hmv hpv
    have hsz:a.tmps.size=61:=by have:=hs'.tm.len;simpa using this.symm
    obtain ⟨kx,hkr,hkx⟩:=kT (P:=Tryz.prog) (T:=79) hs'.ro hpv (r:= .agg [.v (.string nd.1), .v (.int .i64 (nd.2:Nat))]) rfl (by refine ⟨⟨rfl,rfl⟩, ?_⟩;show _<=2;exact Nat.le_of_eq (by kernel_rfl))
    have hlk:iA Tryz.prog 3 [.s, .i] (bq bG (dm done)) [.v (.string nd.1), .v (.int .i64 (nd.2:Nat))] false=some (.v (.int .i64 0)):=by
     rw [iA,if_pos g3,g1];rfl
    have hst2:=ng oV nd 1 (dm done);obtain ⟨w1,w2,st,r1,r2,r3,r4,hmo,hro2⟩:=M5 (P:=Tryz.prog) (T:=107) (kt:=79) (et:=3) (zx:= .int .i64 0) hs'.ro hmv hkx (by kernel_rfl) tt rfl rfl rfl g3 hlk (by kernel_rfl) hst2;refine np hmx (by kernel_rfl) hO (HY (by decide+kernel) (fun j=>match j with|0=>a.eval (.tmp 8)|1=>kx|2=> .int .i64 0|3=> .int .i64 1|4=> .tuple #[.int .i64 0,st]|5=>st|_=>Go.undef) (fun d=>if d 6 then w2 else if d 4 then w1 else w.drew) rfl ?_)
    have W46: ∀ {d:Nat->Bool},d 6=false->d 4=false->(if d 6=true then w2 else if d 4=true then w1 else w.drew)=w.drew:=fun h6 h4=>by rw [h6,h4];rfl
    have W6: ∀ {d:Nat->Bool},d 6=false->d 4=true->(if d 6=true then w2 else if d 4=true then w1 else w.drew)=w1:=fun h6 h4=>by rw [h6,h4];rfl
    have i6: ∀(d:Nat->Bool) (k:Nat),k≠6->jo d k 6=d 6:=fun d k h=>if_neg (Ne.symm h);have i4: ∀(d:Nat->Bool) (k:Nat),k≠4->jo d k 4=d 4:=fun d k h=>if_neg (Ne.symm h)
    refine ⟨fun x d hok hd hdep=>⟨rfl, .inl ?_⟩,fun x d hok hd hdep=>⟨rfl, .inl ?_⟩,fun x d hok hd hdep=>⟨rfl, .inl ?_⟩,fun x d hok hd hdep=>⟨rfl, .inl ?_⟩,fun x d hok hd hdep=>⟨rfl, .inl ?_⟩,fun x d hok hd hdep=>⟨rfl, .inl ?_⟩,fun x d hok hd hdep=>⟨rfl, .inr ⟨?_,rfl⟩⟩,fun x d hall=> ?_⟩
    ·simp only [i6 d 0 (by decide),i4 d 0 (by decide)];simp only [execOp,Sem.run_pure]
    ·have hx0:=hdep
     have h4:d 4=false:=by
      cases h:d 4
      ·rfl
      ·rw [hok 4 1 (by decide) h (by kernel_rfl)] at hd;cases hd
     have h6:d 6=false:=by
      cases h:d 6
      ·rfl
      ·rw [hok 6 1 (by decide) h (by kernel_rfl)] at hd;cases hd
     simp only [i6 d 1 (by decide),i4 d 1 (by decide)];rw [W46 h6 h4];simp only [execOp,fb (show (41:Nat)≠11 by decide)];simp [hkr]
     trace_state
    ·have x0:=(hdep 0 (by decide) (by kernel_rfl)).1;have x1:=(hdep 1 (by decide) (by kernel_rfl)).1
     have h6:d 6=false:=by
      cases h:d 6
      ·rfl
      ·rw [hok 6 2 (by decide) h (by kernel_rfl)] at hd;cases hd
     simp only [i6 d 2 (by decide),i4 d 2 (by decide)]
     have e1:((a.put (some 41) (x 0)).put (some 42) (x 1)).eval (.tmp 41)=a.eval (.tmp 8):=by rw [fb (by decide),fc (by rw [hsz];decide)];exact x0
     have e2:((a.put (some 41) (x 0)).put (some 42) (x 1)).eval (.tmp 42)=kx:=by rw [fc (by rw [b0,hsz];decide)];exact x1
     simp only [execOp,e1,e2]
     cases h4:d 4
     ·simp [h6,r1]
     ·simp [h6,r3]
    ·have x2:=(hdep 2 (by decide) (by kernel_rfl)).1;simp only [i6 d 3 (by decide),i4 d 3 (by decide)]
     have e1:(((a.put (some 41) (x 0)).put (some 42) (x 1)).put (some 43) (x 2)).eval (.tmp 43) = .int .i64 0:=by rw [fc (by rw [b0,b0,hsz];decide)];exact x2
     simp only [execOp,e1]
     rfl
    ·have x0:=(hdep 0 (by decide) (by kernel_rfl)).1;have x1:=(hdep 1 (by decide) (by kernel_rfl)).1
     have h6:d 6=false:=by
      cases h:d 6
      ·rfl
      ·rw [hok 6 4 (by decide) h (by kernel_rfl)] at hd;cases hd
     have e1:((((a.put (some 41) (x 0)).put (some 42) (x 1)).put (some 43) (x 2)).put (some 44) (x 3)).eval (.tmp 41)=a.eval (.tmp 8):=by rw [fb (by decide),fb (by decide),fb (by decide),fc (by rw [hsz];decide)];exact x0
     have e2:((((a.put (some 41) (x 0)).put (some 42) (x 1)).put (some 43) (x 2)).put (some 44) (x 3)).eval (.tmp 42)=kx:=by rw [fb (by decide),fb (by decide),fc (by rw [b0,hsz];decide)];exact x1
     simp only [execOp,e1,e2,i6 d 4 (by decide)];simp [h6,hd,jo,r2]
    ·have x4:=(hdep 4 (by decide) (by kernel_rfl)).1;simp only [i6 d 5 (by decide),i4 d 5 (by decide)]
     have e1:(((((a.put (some 41) (x 0)).put (some 42) (x 1)).put (some 43) (x 2)).put (some 44) (x 3)).put (some 45) (x 4)).eval (.tmp 45) = .tuple #[.int .i64 0,st]:=by rw [fc (by rw [b0,b0,b0,b0,hsz];decide)];exact x4
     simp only [execOp,e1]
     rfl
    ·have x0:=(hdep 0 (by decide) (by kernel_rfl)).1;have x3:=(hdep 3 (by decide) (by kernel_rfl)).1;have x5:=(hdep 5 (by decide) (by kernel_rfl)).1;have h4:=(hdep 4 (by decide) (by kernel_rfl)).2
     have e1:((((((a.put (some 41) (x 0)).put (some 42) (x 1)).put (some 43) (x 2)).put (some 44) (x 3)).put (some 45) (x 4)).put (some 46) (x 5)).eval (.tmp 41)=a.eval (.tmp 8):=by rw [fb (by decide),fb (by decide),fb (by decide),fb (by decide),fb (by decide),fc (by rw [hsz];decide)];exact x0
     have e2:((((((a.put (some 41) (x 0)).put (some 42) (x 1)).put (some 43) (x 2)).put (some 44) (x 3)).put (some 45) (x 4)).put (some 46) (x 5)).eval (.tmp 46)=st:=by rw [fc (by rw [b0,b0,b0,b0,b0,hsz];decide)];exact x5
     have e3:((((((a.put (some 41) (x 0)).put (some 42) (x 1)).put (some 43) (x 2)).put (some 44) (x 3)).put (some 45) (x 4)).put (some 46) (x 5)).eval (.tmp 44) = .int .i64 1:=by rw [fb (by decide),fb (by decide),fc (by rw [b0,b0,b0,hsz];decide)];exact x3
     simp only [execOp,e1,e2,e3];simp [hd,h4,jo,r4]
    ·have hx: ∀i,i<7->x i=_:=fun i hi=>(hall i hi).1;have x0:x 0=a.eval (.tmp 8):=hx 0 (by decide);have x1:x 1=kx:=hx 1 (by decide);have x2:x 2 = .int .i64 0:=hx 2 (by decide);have x3:x 3 = .int .i64 1:=hx 3 (by decide);have q1:=hs'.put (.refl _ _ _) hs'.ro hmv (some 41);have q2:=q1.put (.refl _ _ _) q1.ro hkx (some 42);have q3:=q2.put (.refl _ _ _) q2.ro (.v (.int .i64 0)) (some 43);have q4:=q3.put (.refl _ _ _) q3.ro (.v (.int .i64 1)) (some 44);have q5:=q4.put (.refl _ _ _) q4.ro (.undef (x 4)) (some 45);have q6:=q5.put (.refl _ _ _) q5.ro (.undef (x 5)) (some 46);have q7:=q6.put hmo hro2 (.undef (x 6)) none;rw [<-x0, <- x1, <- x2, <- x3] at q7
     have hW:(if d 6=true then w2 else if d 4=true then w1 else w.drew)=w2:=by rw [(hall 6 (by decide)).2];rfl
     show R .normal (((((((a.put (some 41) (x 0)).put (some 42) (x 1)).put (some 43) (x 2)).put (some 44) (x 3)).put (some 45) (x 4)).put (some 46) (x 5)).put none (x 6)) (if d 6=true then w2 else if d 4=true then w1 else w.drew);rw [hW]
     refine hR .normal D fr.Z _ _ _ nu ?_ q7 ?_
     ·exact m.own hm hs.ro (bl.trans (ak (cQ w)) hmo) hro2
     clear q1 q2 q3 q4 q5 q6 q7 hR;rw [EU (τ:= -key) hd];simp only [AS.put];have hH:=h4 hd
     have hwn:IntKind.i64.wrap (0 - key) = -key:=by rw [dQ (by omega) (by omega)];omega
     rw [hRn hd,Vd];simp only [Cq,bG]
     repeat ((fail_if_success (with_reducible refine b5 (i:=13) ?_));first|(with_reducible first|refine ag.up ?_|refine fun (K:AK) hK=> ?_|(refine hK _ ?_;clear hK K))|simp only [go_sem,hwn]|with_reducible refine wA ?_|clear hK K)
     refine jI.mk ?_ ?_
     ·repeat (first|(with_reducible first|refine ag.up ?_|refine fun (K:AK) hK=> ?_|(refine hK _ ?_;clear hK K))|simp only [go_sem,hwn]|with_reducible refine wA ?_|clear hK K)
      refine ab.cg (S:=T) (a:=nd) (time:= -key) (post:=[da (done++[(nd, -key)]),some ⟨115,2,false,[[.v (.int .i64 key), .v (.int .i64 (i:Nat))]]⟩,some ⟨79,2,false,[[.v (.string nd.1), .v (.int .i64 (nd.2:Nat))]]⟩]) hG (by omega) (by rw [hTn];omega) (by omega) hE ?_;have hT2:=xV (st:=iS A) (E:=E) (a:=nd) (time:= -key) hTm (by omega) hE;have hH1:=hH.1;have hH2:=hH1.fuel
      have hmap:(done++[(nd, -key)]).map Prod.fst=done.map Prod.fst++[nd]:=by simp
      clear hH h4;generalize jU (iS A) E nd (-key) T=T2 at *;simp only [iR,da,UP,UQ]
      repeat ((fail_if_success (with_reducible refine b5 (i:=8) ?_));first|(with_reducible first|refine ag.up ?_|refine fun (K:AK) hK=> ?_|(refine hK _ ?_;clear hK K))|simp only [go_sem]|with_reducible refine wA ?_|clear hK K)
      refine AM [0,1,2,3,4,5,6,7,10] (aG 61 [(0, .v (.func (.yield l) #[] #[])),(1, .vp [.vp (bV A), .mp (dB G)]),(2, .vp [.v (.string root)]),(4, .ptr 1 0 1 0 0),(5, .ptr 3 0 1 0 0),(6, .ptr 6 0 1 0 0),(7, .fn 54 [] [.vp [.vp (bV A), .mp (dB G)], .ptr 1 0 1 0 0, .ptr 6 0 1 0 0, .ptr 3 0 1 0 0]),(8, .vec 7 0),(9, .ptr 8 0 2 0 0)])
       (iR T2++[da (done++[(nd, -key)]),some ⟨115,2,false,[[.v (.int .i64 key), .v (.int .i64 (i:Nat))]]⟩]) (by decide) ?_ ?_ ?_ (by kernel_rfl) ?_
      ·simp only [iR,da,UP,UQ,Vd,Vq,Ud,UD,TG,aa.aO,bI,bo,AV.aO,eK,eI,eNn];rfl
      ·intro k ob hk;have hm:=TI hk;simp only [iR,da,UP,UQ,Uv,Ti,VS,or_false] at hm
       rcases hm with rfl|rfl|rfl|rfl|rfl|rfl|rfl|rfl|rfl
       ·exact cA _ _
       ·rfl
       ·exact fS _ _
       ·rfl
       ·rfl
       ·exact aw _ _
       ·rfl
       ·exact cA _ _
       ·rfl
      ·simp only [Tc,S6];simp only [go_sem,vU,aG,List.foldl,sig,bo,AV.aO,true_or,or_true,eA]
      simp only [iR,da,UP,UQ];simp only [aG,UG,UH,UN,UO,go_sem]
      repeat (first|(with_reducible first|refine ag.up ?_|refine fun (K:AK) hK=> ?_|(refine hK _ ?_;clear hK K))|simp only [go_sem]|with_reducible refine wA ?_|clear hK K)
      refine ab.Ll (S:=T2) (post:=[da (done++[(nd, -key)]),some ⟨115,2,false,[[.v (.int .i64 key), .v (.int .i64 (i:Nat))]]⟩]) (by omega) ?_;simp only [vM,UP,UQ,Tc,S6,Nat.reduceAdd,aC]
      repeat (first|(with_reducible first|refine ag.up ?_|refine fun (K:AK) hK=> ?_|(refine hK _ ?_;clear hK K))|simp only [go_sem]|with_reducible refine wA ?_|clear hK K)
      refine aP.mk (T2,done++[(nd, -key)],f',false) ⟨hH1,hT2,(show f'<=F by omega)⟩ (Nat.lt_succ_self f') ?_;simp only [IM,vM,Ki,if_false,Uw,da,G7,aC,UP,UQ,hmap]
      (refine aq ?_ ?_ ?_<;>simp only [aG,UG,UH,UN,UO,bd,bj,AV.v.injEq,Value.int.injEq,Value.bool.injEq,Value.string.injEq,AV.vec.injEq,AV.ptr.injEq,true_or,or_true,false_or,or_false,aa.mk.injEq,forall_eq_apply_imp_iff,forall_eq,forall_eq',go_sem])
      all_goals (by_cases q:T2.heap=[]<;>simp [q,GS,aw])
     ·repeat (first|(with_reducible first|refine ag.up ?_|refine fun (K:AK) hK=> ?_|(refine hK _ ?_;clear hK K))|simp only [go_sem]|with_reducible refine wA ?_|clear hK K)
      exact .inr trivial
section
theorem Dy (A:nt) (G:List (ByteArray×List aV)) (root:ByteArray):af Tryz.prog 30 [.agg [.vp (bV A), .mp (dB G)], .v (.string root)] (.fn 52 [] [.vp [.vp (bV A), .mp (dB G)], .vp [.v (.string root)]]):=by
 have hA:ba 0 [.agg [.vp (bV A), .mp (dB G)], .v (.string root)]=true:=by simp only [ba,AV.wf,dq,fT,Um]
 have hF:(AV.fn 52 [] [.vp [.vp (bV A), .mp (dB G)], .vp [.v (.string root)]]).wf 0=true:=by simp only [ba,AV.wf,dq,fT,Um]
 (refine af.nL Tryz.func30 rfl (by kernel_rfl) (by kernel_rfl) rfl hA hF ?_;simp only [Tryz.ntmps30,Tryz.results30,Tc,S6,Nat.reduceAdd,Nat.reduceSub,UN,UO,UP,UQ])
 repeat (first|(with_reducible first|refine ag.up ?_|refine fun (K:AK) hK=> ?_|(refine hK _ ?_;clear hK K))|simp only [go_sem]|clear hK K)
 refine cj.of 6 rfl ?_;simp only [aa.hl,AV.wf,ba,dq,fT,Um,UM];simp
theorem Jf (x:Ex) (e:Int) (h0:e≠0) (E:List aV) (C:af Tryz.prog 49 [.agg (bH x)] (.ct [.v (.pointer none), .v (.int .i64 e)])):af Tryz.prog 27 [.agg (bH x), .aI 5 (E.map bu) E.length] (.ct [.agg [.v (.pointer none), .v (.map none)], .v (.int .i64 e)]):=by
 have z0:(e !=0)=true:=by simp [h0]
 rw [aS] at C ⊢
 (refine af.enter Tryz.func27 rfl (by kernel_rfl) (by kernel_rfl) rfl (by first|rfl|(simp only [go_sem,UM,Um,Us])) (by first|rfl|(simp only [go_sem,UM,Um,Us])) ?_;simp only [Tryz.ntmps27,Tryz.results27,Tc,S6,Nat.reduceAdd,Nat.reduceSub,UN,UO,UP,UQ])
 repeat (first|(with_reducible first|refine ag.up ?_|refine fun (K:AK) hK=> ?_|(refine hK _ ?_;clear hK K))|simp only [go_sem]|clear hK K)
 refine ab.one C ?_
 repeat (first|(with_reducible first|refine ag.up ?_|refine fun (K:AK) hK=> ?_|(refine hK _ ?_;clear hK K))|simp only [go_sem,z0]|clear hK K)
 (refine nq.of 40 rfl ?_;simp only [go_sem])
section
variable {st:Nat->ByteArray->Option Nat} {tk:Nat->Bool} {em:Bool} {n:Nat}
def Rt (tk:Nat->Bool) (root:ByteArray) (p:Nd×Int):Option (K2×Int):=if tk p.1.2 then some ((root,p.1.1),p.2) else none
def se (st:Nat->ByteArray->Option Nat) (tk:Nat->Bool) (em:Bool) (n:Nat) (E:List aV) (i:Nat):PL:=eu (((aZ E).take i).flatMap (iO st tk em n E)) []
def zV (st:Nat->ByteArray->Option Nat) (tk:Nat->Bool) (n:Nat) (E:List aV) (root:ByteArray) (b:PL) (k:Nat):PL:=eu (((rN st n E root).take k).filterMap (Rt tk root)) b
theorem Dp {E:List aV} {i:Nat} (h:i<(aZ E).length):se st tk em n E (i+1)=zV st tk n E (aZ E)[i].1.1 (if em then eX (se st tk em n E i) ((aZ E)[i].1.1,(aZ E)[i].1.1) (aZ E)[i].2 else se st tk em n E i) (rN st n E (aZ E)[i].1.1).length:=by
 rw [se,VB h,List.flatMap_append,kZ,zV,Wa];simp only [List.flatMap_cons,List.flatMap_nil,List.append_nil,iO];rw [kZ];cases em<;>rfl
theorem Dn {E:List aV} {root:ByteArray} {b:PL} {k:Nat} (h:k<(rN st n E root).length):zV st tk n E root b (k+1)=if tk (rN st n E root)[k].1.2 then eX (zV st tk n E root b k) (root,(rN st n E root)[k].1.1) (rN st n E root)[k].2 else zV st tk n E root b k:=by
 rw [zV,VB h,List.filterMap_append,kZ];simp only [List.filterMap_cons,List.filterMap_nil,Rt];cases tk (rN st n E root)[k].1.2<;>rfl
theorem tq {K:Type} [DecidableEq K]: ∀(l b:List (K×Int)),(eu l b).length<=b.length+l.length
 | [],b=>Nat.le_refl _
 | p :: l,b=>by
  have h1:=tq l (eX b p.1 p.2);have h2:=qb b p.1 p.2;show (eu l (eX b p.1 p.2)).length<=_;simp only [Tc];omega
theorem It {E:List aV} (hst: ∀s l t,st s l=some t->t<n) (hb: ∀e∈E,e.time<=y0) (root:ByteArray):(rN st n E root).length<=E.length * n:=by
 have F:=uy hst hb root
 have h:=FT F.nd (m:=ib n E) (fun x hx=>by
  obtain ⟨p,hp,rfl⟩:=List.mem_map.1 hx;have hw:=F.fp p hp
  have key: ∀ {τ v s},rV st E τ root v s->(v,s)∈ib n E:=fun h=>by
   cases h with
   | one e s h1 h2 h3 h4=>exact j8 hst e h1 0 _ h4
   | more e s t h1 h2 h3 h4=>exact j8 hst e h2 s _ h4
  exact key hw)
 rw [sF,List.length_map] at h;exact h
theorem xE {E:List aV} (hst: ∀s l t,st s l=some t->t<n) (hb: ∀e∈E,e.time<=y0) (hl:E.length<=31) (hn:n<=32): ∀i,(se st tk em n E i).length<=100000:=fun i=>by
 have h1:=tq (((aZ E).take i).flatMap (iO st tk em n E)) []
 have h2: ∀l:PL,(l.flatMap (iO st tk em n E)).length<=l.length * 993:=by
  intro l
  induction l with
  | nil=>simp
  | cons a l ih=>
   have h3:=It hst hb a.1.1
   have h4:(iO st tk em n E a).length<=1+(rN st n E a.1.1).length:=by
    rw [iO,List.length_append]
    have:=List.length_filterMap_le (fun p:Nd×Int=>if tk p.1.2 then some ((a.1.1,p.1.1),p.2) else none) (rN st n E a.1.1)
    cases em<;>simp<;>omega
   have h5:E.length * n<=31 * 32:=Nat.mul_le_mul hl hn;rw [List.flatMap_cons,List.length_append,Tc];omega
 have h3:=h2 ((aZ E).take i)
 have h4:(aZ E).length<=62:=by
  have:=ni E E.length (Nat.le_refl _)
  rw [Wa] at this;rw [aZ,(cF _).length_eq];omega
 have h5:((aZ E).take i).length<=62:=by rw [List.length_take];omega
 simp only [S6] at h1;rw [se];omega
end
noncomputable def ti (x:Ex) (E:List aV):AV:=if gK x E=0 then .ct [.aI 3 ((gL x E).map cd) (gL x E).length, .v (.int .i64 0)] else .ct [.v (.slice none 0 0), .v (.int .i64 (gK x E))]
theorem Di (x:Ex) (E:List aV) (hl:E.length<=31) (hA: ∀A,ej x (cn x) = .inl A->AOk A):(gL x E).length<=100000:=by
 unfold gL
 cases ha:ej x (cn x) with
 | inr e=>simp
 | inl A=>
  simp only
  split
  ·rename_i he;have ok:=hA A ha
   have:=xE (tk:=fun s=>dG A s) (em:=di x) (Ai ok) (qs he) hl ok.max (aZ E).length
   rw [se,Wa] at this;rw [kA,n3,(cF _).length_eq];exact this
  ·simp
theorem tY (x:Ex) (E:List aV) (hx:x.ok) (hok: ∀e∈E,sn e) (hl:E.length<=31) (hA: ∀A,ej x (cn x) = .inl A->AOk A):af Tryz.prog 9 [.agg (bH x), .aI 5 (E.map bu) E.length] (ti x E):=by
 have NW:=KP x hx;have eW: ∀n l,bQ n (bq aN l)=true:=fun n l=>fh (fun _=>rfl) l;have EM:=tV x hx;have VT:=Jh E (by omega);unfold C9 at NW;unfold ti
 cases ha:ej x (cn x) with
 | inr e=>
  rw [ha] at NW;have h0:=sB ha
  have hp:gK x E=e:=by rw [gK,ha]
  have OV:=Jf x e h0 E NW
  have z0:(e !=0)=true:=by simp [h0]
  rw [hp,if_neg h0];rw [aS] at OV ⊢
  (refine af.enter Tryz.func9 rfl (by kernel_rfl) (by kernel_rfl) rfl (by first|rfl|(simp only [go_sem,UM,Um,Us])) (by first|rfl|(simp only [go_sem,UM,Um,Us])) ?_;simp only [Tryz.ntmps9,Tryz.results9,Tc,S6,Nat.reduceAdd,Nat.reduceSub,UN,UO,UP,UQ])
  repeat (first|(with_reducible first|refine ag.up ?_|refine fun (K:AK) hK=> ?_|(refine hK _ ?_;clear hK K))|simp only [go_sem]|with_reducible refine wA ?_|clear hK K)
  refine ab.one OV ?_
  repeat (first|(with_reducible first|refine ag.up ?_|refine fun (K:AK) hK=> ?_|(refine hK _ ?_;clear hK K))|simp only [go_sem,z0]|with_reducible refine wA ?_|clear hK K)
  (refine nq.of 40 rfl ?_;simp only [go_sem])
 | inl A=>
  rw [ha] at NW;have ok:=hA A ha
  have hp:gK x E=dh E:=by rw [gK,ha]
  have OV:=Lb x A E NW hok (by omega);rw [hp]
  by_cases he:dh E=0
  ·have hL:gL x E=kA x A E:=by rw [gL,ha];simp only [if_pos he]
   rw [if_pos he,hL];rw [o6,if_pos he] at OV;have hE: ∀e∈E,0<=e.time∧e.time<=1099511627776:=fun e h=>sK (kR he e h);have hst:=Ai ok;have RS:=fun root=>Dw A E (wY E) root (Fg E) hE hl A.rows.length ok.max hst;have RC:=fun root=>Dy A (wY E) root;have TK:=fun s:Int=>EW A ok.ends s;have hwA: ∀n,ba n (bV A)=true:=fun n=>dq n A;have hwG: ∀n,bQ n (dB (wY E))=true:=fun n=>fT n _;generalize bV A=vA at *;generalize dB (wY E)=vG at *;rw [aS] at OV EM ⊢
   (refine af.enter Tryz.func9 rfl (by kernel_rfl) (by kernel_rfl) rfl (by first|rfl|(simp only [go_sem,UM,Um,Us])) (by first|rfl|(simp only [go_sem,UM,Um,Us])) ?_;simp only [Tryz.ntmps9,Tryz.results9,Tc,S6,Nat.reduceAdd,Nat.reduceSub,UN,UO,UP,UQ])
   repeat (first|(with_reducible first|refine ag.up ?_|refine fun (K:AK) hK=> ?_|(refine hK _ ?_;clear hK K))|simp only [go_sem]|with_reducible refine wA ?_|clear hK K)
   refine ab.one OV ?_
   repeat (first|(with_reducible first|refine ag.up ?_|refine fun (K:AK) hK=> ?_|(refine hK _ ?_;clear hK K))|simp only [go_sem]|with_reducible refine wA ?_|clear hK K)
   refine ab.one VT ?_
   repeat (first|(with_reducible first|refine ag.up ?_|refine fun (K:AK) hK=> ?_|(refine hK _ ?_;clear hK K))|simp only [go_sem]|with_reducible refine wA ?_|clear hK K)
   have hN:(aZ E).length<=62:=by
    have:=ni E E.length (Nat.le_refl _)
    rw [Wa] at this;rw [aZ,(cF _).length_eq];omega
   let B:=se (iS A) (fun s=>dG A s) (di x) A.rows.length E
   let oX:Option aa:=some ⟨25,3,false,[[.v (.int .i64 x.kind), .v (.string x.label), .aI 3 (x.kids.map bH) x.kids.length]]⟩
   let oW:Option aa:=some ⟨66,2,false,[[.vp vA, .mp vG]]⟩
   let oM:PL->Option aa:=fun l=>some ⟨70,0,false,bq aN l⟩
   let oB:Option aa:=some ⟨70,1,false,[[.vec 2 0]]⟩
   refine kP (ι:=Nat) (fun i=>[(2, .ptr 0 0 3 0 0),(6, .ptr 1 0 2 0 0),(8, .ptr 3 0 1 0 0),(24, .aI 3 ((aZ E).map cd) (aZ E).length),(25, .v (.int .i64 ((aZ E).length:Nat))),(26, .v (.int .i64 (i:Nat)))]) (fun i=>[oX,oW,oM (B i),oB]) (fun i=>(aZ E).length - i) (fun i=>i<=(aZ E).length) 0 (Nat.zero_le _) ?_ ?_
   ·simp only [oX,oW,oM,oB]
    (refine aq ?_ ?_ ?_<;>simp only [aG,UG,UH,UN,UO,bd,bj,AV.v.injEq,Value.int.injEq,Value.bool.injEq,Value.string.injEq,AV.vec.injEq,AV.ptr.injEq,true_or,or_true,false_or,or_false,aa.mk.injEq,forall_eq_apply_imp_iff,forall_eq,forall_eq',go_sem])
    all_goals first|rfl|exact ⟨by rw [hwA,hwG];rfl,rfl,rfl⟩|trace_state
   ·rintro i hi K hK;simp only [aG,UG,UH,UN,UO,go_sem]
    rcases Nat.lt_or_ge i (aZ E).length with h|h
    ·have d1:decide ((i:Int)<((aZ E).length:Int))=true:=decide_eq_true (by omega);have e1:=getD_map cd (aZ E) i [] h;simp only [cd] at e1
     have eN:((aZ E).map cd).length=(aZ E).length:=by simp
     have ws:=aD (k:=i) (by omega);have hS:B (i+1)=_:=Dp h;generalize (aZ E)[i]=v at *;simp only [oX,oW,oM,oB]
     repeat ((fail_if_success (with_reducible refine Nv (i:=8) ?_));first|(with_reducible first|refine ag.up ?_|refine fun (K:AK) hK=> ?_|(refine hK _ ?_;clear hK K))|simp only [go_sem,d1,e1,eN]|with_reducible refine wA ?_|clear hK K)
     refine wi ⟨aG 63 [(2, .ptr 0 0 3 0 0),(6, .ptr 1 0 2 0 0),(8, .ptr 3 0 1 0 0),(10, .ptr 4 0 3 0 0),(24, .aI 3 ((aZ E).map cd) (aZ E).length),(25, .v (.int .i64 ((aZ E).length:Nat))),(26, .v (.int .i64 (i:Nat)))],[oX,oW,oM (if di x=true then eX (B i) (v.1.1,v.1.1) v.2 else B i),oB,some ⟨37,3,false,[cd v]⟩], .no⟩ (by kernel_rfl) (by kernel_rfl) ?_ ?_
     ·cases hem:di x
      ·rw [hem] at EM;simp only [oX,oW,oM,oB,Bool.false_eq_true,if_false]
       repeat (first|(with_reducible first|refine ag.up ?_|refine fun (K:AK) hK=> ?_|(refine hK _ ?_;clear hK K))|simp only [go_sem]|with_reducible refine wA ?_|clear hK K)
       refine ab.one EM ?_
       repeat (first|(with_reducible first|refine ag.up ?_|refine fun (K:AK) hK=> ?_|(refine hK _ ?_;clear hK K))|simp only [go_sem]|with_reducible refine wA ?_|clear hK K)
       simp only [cd];simp only [aG,UG,UH,UN,UO,go_sem]
       (refine aq ?_ ?_ ?_<;>simp only [aG,UG,UH,UN,UO,bd,bj,AV.v.injEq,Value.int.injEq,Value.bool.injEq,Value.string.injEq,AV.vec.injEq,AV.ptr.injEq,true_or,or_true,false_or,or_false,aa.mk.injEq,forall_eq_apply_imp_iff,forall_eq,forall_eq',go_sem])
       all_goals first|exact eW _ _|exact ⟨by rw [hwA,hwG];rfl,eW _ _⟩|trace_state
      ·rw [hem] at EM;simp only [oX,oW,oM,oB,if_true]
       repeat (first|(with_reducible first|refine ag.up ?_|refine fun (K:AK) hK=> ?_|(refine hK _ ?_;clear hK K))|simp only [go_sem]|with_reducible refine wA ?_|clear hK K)
       refine ab.one EM ?_
       repeat (first|(with_reducible first|refine ag.up ?_|refine fun (K:AK) hK=> ?_|(refine hK _ ?_;clear hK K))|simp only [go_sem]|with_reducible refine wA ?_|clear hK K)
       refine ab.Jr (k:=(v.1.1,v.1.1)) rfl ?_
       repeat (first|(with_reducible first|refine ag.up ?_|refine fun (K:AK) hK=> ?_|(refine hK _ ?_;clear hK K))|simp only [go_sem]|with_reducible refine wA ?_|clear hK K)
       simp only [cd];simp only [aG,UG,UH,UN,UO,go_sem]
       (refine aq ?_ ?_ ?_<;>simp only [aG,UG,UH,UN,UO,bd,bj,AV.v.injEq,Value.int.injEq,Value.bool.injEq,Value.string.injEq,AV.vec.injEq,AV.ptr.injEq,true_or,or_true,false_or,or_false,aa.mk.injEq,forall_eq_apply_imp_iff,forall_eq,forall_eq',go_sem])
       all_goals first|exact eW _ _|exact ⟨by rw [hwA,hwG];rfl,eW _ _⟩|trace_state
     ·generalize (if di x=true then eX (B i) (v.1.1,v.1.1) v.2 else B i)=b1 at *;simp only [oX,oW,oM,oB,cd];simp only [aG,UG,UH,UN,UO,go_sem]
      repeat (first|(with_reducible first|refine ag.up ?_|refine fun (K:AK) hK=> ?_|(refine hK _ ?_;clear hK K))|simp only [go_sem]|with_reducible refine wA ?_|clear hK K)
      refine ab.one (RC v.1.1) ?_
      repeat (first|(with_reducible first|refine ag.up ?_|refine fun (K:AK) hK=> ?_|(refine hK _ ?_;clear hK K))|simp only [go_sem]|with_reducible refine wA ?_|clear hK K)
      refine lS (RS v.1.1) 27 (fun k=>[oX,oW,oM (zV (iS A) (fun s=>dG A s) A.rows.length E v.1.1 b1 k),oB,some ⟨37,3,false,[cd v]⟩]) (fun k=>k<=(rN (iS A) A.rows.length E v.1.1).length) (Nat.zero_le _) ?_ ?_ ?_ (by kernel_rfl) (by kernel_rfl) ?_ ?_ ?_
      ·repeat (first|(with_reducible first|refine ag.up ?_|refine fun (K:AK) hK=> ?_|(refine hK _ ?_;clear hK K))|simp only [go_sem]|with_reducible refine wA ?_|clear hK K)
      ·simp only [ba,AV.wf,hwA,hwG,UM]
      ·simp only [oX,oW,oM,oB,cd]
       (refine aq ?_ ?_ ?_<;>simp only [aG,UG,UH,UN,UO,bd,bj,AV.v.injEq,Value.int.injEq,Value.bool.injEq,Value.string.injEq,AV.vec.injEq,AV.ptr.injEq,true_or,or_true,false_or,or_false,aa.mk.injEq,forall_eq_apply_imp_iff,forall_eq,forall_eq',go_sem])
       all_goals first|exact ⟨by rw [hwA,hwG];rfl,rfl,eW _ _⟩|trace_state
      ·intro y hy;obtain ⟨p,_,rfl⟩:=List.mem_map.1 hy
       rfl
      ·intro k y hk hy
       have hk2:k<(rN (iS A) A.rows.length E v.1.1).length:=by
        have:=(List.getElem?_eq_some_iff.1 hy).1
        simpa using this
       have hy2:y=Cq (rN (iS A) A.rows.length E v.1.1)[k]:=by
        rw [List.getElem?_map,List.getElem?_eq_getElem hk2] at hy;exact (Option.some.inj hy).symm
       have hP:=Dn (tk:=fun s=>dG A s) (b:=b1) hk2;clear hy;subst hy2;generalize (rN (iS A) A.rows.length E v.1.1)[k]=p at *;have T:=TK (p.1.2:Nat);simp only [oX,oW,oM,oB,cd,Cq,bG]
       repeat (first|(with_reducible first|refine ag.up ?_|refine fun (K:AK) hK=> ?_|(refine hK _ ?_;clear hK K))|simp only [go_sem]|with_reducible refine wA ?_|clear hK K)
       refine ab.one T ?_
       cases htk:dG A (p.1.2:Nat)
       ·simp only [htk,Bool.false_eq_true,if_false] at hP
        repeat (first|(with_reducible first|refine ag.up ?_|refine fun (K:AK) hK=> ?_|(refine hK _ ?_;clear hK K))|simp only [go_sem,htk]|with_reducible refine wA ?_|clear hK K)
        rw [hP]
        (refine aq ?_ ?_ ?_<;>simp only [aG,UG,UH,UN,UO,bd,bj,AV.v.injEq,Value.int.injEq,Value.bool.injEq,Value.string.injEq,AV.vec.injEq,AV.ptr.injEq,true_or,or_true,false_or,or_false,aa.mk.injEq,forall_eq_apply_imp_iff,forall_eq,forall_eq',go_sem])
        all_goals first|exact ⟨by rw [hwA,hwG];rfl,eW _ _⟩|trace_state
       ·simp only [htk,if_true] at hP
        repeat (first|(with_reducible first|refine ag.up ?_|refine fun (K:AK) hK=> ?_|(refine hK _ ?_;clear hK K))|simp only [go_sem,htk]|with_reducible refine wA ?_|clear hK K)
        refine ab.Jr (k:=(v.1.1,p.1.1)) rfl ?_
        repeat (first|(with_reducible first|refine ag.up ?_|refine fun (K:AK) hK=> ?_|(refine hK _ ?_;clear hK K))|simp only [go_sem]|with_reducible refine wA ?_|clear hK K)
        rw [hP]
        (refine aq ?_ ?_ ?_<;>simp only [aG,UG,UH,UN,UO,bd,bj,AV.v.injEq,Value.int.injEq,Value.bool.injEq,Value.string.injEq,AV.vec.injEq,AV.ptr.injEq,true_or,or_true,false_or,or_false,aa.mk.injEq,forall_eq_apply_imp_iff,forall_eq,forall_eq',go_sem])
        all_goals first|exact ⟨by rw [hwA,hwG];rfl,eW _ _⟩|trace_state
      ·intro _
       have eK:((rN (iS A) A.rows.length E v.1.1).map Cq).length=(rN (iS A) A.rows.length E v.1.1).length:=by simp
       rw [eK, <- hS];simp only [oX,oW,oM,oB]
       repeat (first|(with_reducible first|refine ag.up ?_|refine fun (K:AK) hK=> ?_|(refine hK _ ?_;clear hK K))|simp only [go_sem,ws]|with_reducible refine wA ?_|clear hK K)
       refine aP.mk (i+1) h (show (aZ E).length - (i+1)<(aZ E).length - i by omega) ?_;simp only [oX,oW,oM,oB];simp only [aG,UG,UH,UN,UO,go_sem]
       (refine aq ?_ ?_ ?_<;>simp only [aG,UG,UH,UN,UO,bd,bj,AV.v.injEq,Value.int.injEq,Value.bool.injEq,Value.string.injEq,AV.vec.injEq,AV.ptr.injEq,true_or,or_true,false_or,or_false,aa.mk.injEq,forall_eq_apply_imp_iff,forall_eq,forall_eq',go_sem])
       all_goals first|exact ⟨by rw [hwA,hwG];rfl,eW _ _⟩|trace_state
    ·have e0:i=(aZ E).length:=by omega
     have d1:decide (((aZ E).length:Int)<((aZ E).length:Int))=false:=decide_eq_false (by omega);simp only [e0,oX,oW,oM,oB]
     repeat ((fail_if_success (with_reducible refine b5 (i:=16) ?_));first|(with_reducible first|refine ag.up ?_|refine fun (K:AK) hK=> ?_|(refine hK _ ?_;clear hK K))|simp only [go_sem,d1]|with_reducible refine wA ?_|clear hK K)
     have eB:B (aZ E).length=eu ((aZ E).flatMap (iO (iS A) (fun s=>dG A s) (di x) A.rows.length E)) []:=by
      show se _ _ _ _ _ _=_;rw [se,Wa]
     have PR:=Bk (B (aZ E).length) (by rw [eB];exact (gM _ [] List.nodup_nil).1) (by have:=xE (tk:=fun s=>dG A s) (em:=di x) hst (qs he) hl ok.max (aZ E).length;exact Nat.le_trans this (by omega))
     have eP:bU (B (aZ E).length)=kA x A E:=by rw [eB];rfl
     rw [eP] at PR;refine ck (tO (k:=3) (i:=0) (j:=0) (id:=2) (by decide) rfl (by decide) rfl rfl rfl rfl rfl) (by kernel_rfl) ?_;simp only [List.set_cons_zero,List.set_cons_succ]
     repeat (first|(with_reducible first|refine ag.up ?_|refine fun (K:AK) hK=> ?_|(refine hK _ ?_;clear hK K))|simp only [go_sem]|with_reducible refine wA ?_|clear hK K)
     refine ab.one PR ?_
     repeat (first|(with_reducible first|refine ag.up ?_|refine fun (K:AK) hK=> ?_|(refine hK _ ?_;clear hK K))|simp only [go_sem]|with_reducible refine wA ?_|clear hK K)
     refine nq.of 40 rfl ?_;simp only [go_sem,iY]
     all_goals trace_state
  ·rw [if_neg he];rw [o6,if_neg he] at OV
   have z0:(dh E !=0)=true:=by simp [he]
   rw [aS] at OV ⊢
   (refine af.enter Tryz.func9 rfl (by kernel_rfl) (by kernel_rfl) rfl (by first|rfl|(simp only [go_sem,UM,Um,Us])) (by first|rfl|(simp only [go_sem,UM,Um,Us])) ?_;simp only [Tryz.ntmps9,Tryz.results9,Tc,S6,Nat.reduceAdd,Nat.reduceSub,UN,UO,UP,UQ])
   repeat (first|(with_reducible first|refine ag.up ?_|refine fun (K:AK) hK=> ?_|(refine hK _ ?_;clear hK K))|simp only [go_sem]|with_reducible refine wA ?_|clear hK K)
   refine ab.one OV ?_
   repeat (first|(with_reducible first|refine ag.up ?_|refine fun (K:AK) hK=> ?_|(refine hK _ ?_;clear hK K))|simp only [go_sem,z0]|with_reducible refine wA ?_|clear hK K)
   (refine nq.of 40 rfl ?_;simp only [go_sem])
end
end Go.Proofs.YtlhhccmopfamhaaGreatDoor
