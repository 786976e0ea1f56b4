/- texts of one claim, one behind the other. -/
import Derived.Test.YtjcobjgjjlahdaaGreatDoorJPlanC
import Derived.Test.YtjcobjgjjlahdaaGreatDoorJDfaE
set_option linter.unusedSimpArgs false
set_option linter.unusedVariables false
set_option maxRecDepth 100000
set_option maxHeartbeats 16000000
open Bool renaming false_eq_true -> SV, not_false -> Ub, not_true -> Uc
open List renaming length_drop -> T7, length_nil -> Q9, replicate_succ -> Ti, replicate_zero -> Tj, map_cons -> TN, map_nil -> TT, getElem?_cons_zero -> Su, getElem?_cons_succ -> Tc, take_zero -> TE, filter_nil -> T8, foldl_cons -> SI, foldl_nil -> SL, length_filter_le -> T9, length_take -> RB, take_length -> Tr, map_drop -> Ua, length_map -> R5, length_cons -> Rg, drop_zero -> TY
open Nat renaming zero_lt_succ -> T0, zero_le -> Rh, le_trans -> Q6
open Option renaming map_some -> RI
namespace Go.Proofs.YtjcobjgjjlahdaaGreatDoor
open Go.RowKit
theorem cG {α:Type} (q:α->Bool) (l:List α) {k:Nat} (h:k<l.length):(l.take (k+1)).filter q=if q l[k] then (l.take k).filter q++[l[k]] else (l.take k).filter q:=by
 rw [List.take_succ_eq_append_getElem h,List.filter_append];cases hq:q l[k]<;>simp [hq]
theorem IS (p:bQ) (bound:List ByteArray) (ws:List ff) (hx:p.expr.lens 1000000) (hb:bound.length<=100000) (hne:bound≠[]) (hw:ws.length<=100000) :
  bK Tryz.prog 39 [.agg (bM p), .vec 1 bound.length, .ptr 0 0 1 0 0] [some ⟨23,1,false,[[.aC 13 (ws.map aH) ws.length]]⟩,some ⟨9,1,true,bound.map encS⟩]
   (.agg (bM p++[aK (keysOf p bound),aK ((bB p bound).drop bound.length), .aC 13 ((ws.filter (fun c=>aN c (bB p bound))).map aH) (ws.filter (fun c=>aN c (bB p bound))).length]))
   [some ⟨23,1,false,[[.aC 13 ((leftOf p bound ws).map aH) (leftOf p bound ws).length]]⟩,some ⟨9,1,true,bound.map encS⟩]:=by
 have PC:=sU p hx;have U0:=nN [p.aR,p.to] (by simp);have CL:=Em bound (by omega) hne;have UN:=qZ bound (aS p) (by omega) (by have:=gp p;omega);have hnl:=jb p bound;have hpre:=jc p bound;have CS:=Jj ((bB p bound).drop bound.length) (by rw [T7];omega);have eZ: ∀f l,bW f (List.map encS l)=List.map encS l:=fun f l=>bS _ _ (aA _ _)
 have eB:(bound.map encS).length=bound.length:=by simp
 have eK: ∀kl:List ByteArray,(kl.map encS).length=kl.length:=fun kl=>by simp
 have hkl:=ea [p.aR,p.to] [];have ek:keysOf p bound=([p.aR,p.to].foldl aq []).filter (hasB bound):=rfl;generalize [p.aR,p.to].foldl aq []=kl at *;rw [ek];simp only [leftOf];rw [<-bB] at UN;generalize bB p bound=now at *;obtain ⟨f,t,h,l,n,⟨xk,xs,xl⟩⟩:=p;simp only [bM,aK,Ex.kind,Ex.label,Ex.kids,List.length_cons,Q9,Nat.reduceAdd] at *
 (refine bK.enter Tryz.func39 rfl (by kernel_rfl) (by kernel_rfl) rfl ?_;simp only [Tryz.ntmps39,Tryz.results39,List.length_cons,Q9,Nat.reduceAdd,Nat.reduceSub,Ti,Tj,List.cons_append,List.nil_append])
 repeat (first|(with_reducible first|refine af.up ?_|refine fun (K:AK) hK=> ?_|(refine hK _ ?_;clear hK K))|simp only [go_sem]|with_reducible refine wA ?_|clear hK K)
 refine ab.one PC ?_
 repeat ((fail_if_success (with_reducible refine bD (i:=3) ?_));first|(with_reducible first|refine af.up ?_|refine fun (K:AK) hK=> ?_|(refine hK _ ?_;clear hK K))|simp only [go_sem]|with_reducible refine wA ?_|clear hK K)
 refine aJ (bY (k:=4) (i:=0) (j:=8) 9 1 (by decide) rfl (T0 _) rfl rfl) (by kernel_rfl) ?_
 repeat (first|(with_reducible first|refine af.up ?_|refine fun (K:AK) hK=> ?_|(refine hK _ ?_;clear hK K))|simp only [go_sem]|with_reducible refine wA ?_|clear hK K)
 refine ab.fr [5] U0 (by simp) ?_ ?_ ?_ ?_ ?_
 ·simp only [TN,TT,Su,Tc,RI,aa.bc,bW,bV,AV.bc,eZ,encS]
 ·rfl
 ·rfl
 ·intro j ob hj
  match j,hj with
  | 0,hj=>cases hj;exact aA _ [_,_]
  | j+1,hj=>simp at hj
 repeat (first|(with_reducible first|refine af.up ?_|refine fun (K:AK) hK=> ?_|(refine hK _ ?_;clear hK K))|simp only [go_sem,eZ]|with_reducible refine wA ?_|clear hK K)
 refine cV (ι:=Nat) 27 (fun k=>[(10, .undef),(26, .v (.int .i64 k))]) (fun k=>[some ⟨23,1,false,[[.aC 13 (ws.map aH) ws.length]]⟩,some ⟨9,1,true,bound.map encS⟩,some ⟨40,8,false,[[.v (.string f), .v (.string t), .v (.bool h), .v (.string l), .v (.string n), .v (.int .i64 xk), .v (.string xs), .aC 3 (xl.map bg) xl.length]]⟩,some ⟨45,11,false,[[.v (.string ⟨#[]⟩), .v (.string ⟨#[]⟩), .v (.bool false), .v (.string ⟨#[]⟩), .v (.string ⟨#[]⟩), .v (.int .i64 0), .v (.string ⟨#[]⟩), .v (.slice none 0 0), .v (.slice none 0 0), .v (.slice none 0 0), .v (.slice none 0 0)]]⟩,some ⟨45,11,false,[[.v (.string f), .v (.string t), .v (.bool h), .v (.string l), .v (.string n), .v (.int .i64 xk), .v (.string xs), .aC 3 (xl.map bg) xl.length, .vec 6 ((kl.take k).filter (hasB bound)).length, .v (.slice none 0 0), .v (.slice none 0 0)]]⟩,some ⟨9,1,true,[[.v (.string f)],[.v (.string t)]]⟩,some ⟨9,1,true,((kl.take k).filter (hasB bound)).map encS⟩,some ⟨9,1,true,kl.map encS⟩]) (fun k=>kl.length - k) (fun k=>k<=kl.length) 0 (Rh _) ?_ ?_
 ·simp only [TE,T8,Q9,TT]
  (refine ak ?_ ?_ ?_<;>simp only [aR,SI,SL,Ti,Tj,aX,aW,AV.v.injEq,Value.int.injEq,Value.bool.injEq,Value.string.injEq,AV.vec.injEq,AV.ptr.injEq,true_or,or_true,false_or,or_false,aa.mk.injEq,forall_eq_apply_imp_iff,forall_eq,forall_eq',go_sem])
  all_goals first|rfl|trace_state
 ·intro k hk K hK;have eW:=aD (k:=k) (by omega)
  by_cases hlt:k<kl.length
  ·have e1:decide ((k:Int)<(kl.length:Int))=true:=decide_eq_true (by omega);have eG:=getD_map encS kl k [] hlt;have eS:=cG (hasB bound) kl hlt;have C:=dR bound kl[k];have hlc:((kl.take k).filter (hasB bound)).length<=2:=Q6 (T9 _ _) (by rw [RB];omega);simp only [encS] at eG;simp only [aK] at C;generalize (kl.take k).filter (hasB bound)=cur at *
   have eLc:(cur.map encS).length=cur.length:=by simp
   repeat (first|(with_reducible first|refine af.up ?_|refine fun (K:AK) hK=> ?_|(refine hK _ ?_;clear hK K))|simp only [go_sem,e1,eG]|with_reducible refine wA ?_|clear hK K)
   refine ab.x5 C 8 rfl (by simp only [go_sem,Nat.reduceLT,Nat.reduceLeDiff,Nat.reduceEqDiff,Nat.lt_add_one,Nat.zero_lt_one,and_self,aA]) rfl ?_
   cases hb:hasB bound kl[k]
   ·rw [hb] at eS;simp only [SV,if_false] at eS
    repeat (first|(with_reducible first|refine af.up ?_|refine fun (K:AK) hK=> ?_|(refine hK _ ?_;clear hK K))|simp only [go_sem,hb]|with_reducible refine wA ?_|clear hK K)
    repeat (first|(with_reducible first|refine af.up ?_|refine fun (K:AK) hK=> ?_|(refine hK _ ?_;clear hK K))|simp only [go_sem,eW]|with_reducible refine wA ?_|clear hK K)
    refine aM.mk (k+1) hlt (by omega) ?_;simp only [eS]
    (refine ak ?_ ?_ ?_<;>simp only [aR,SI,SL,Ti,Tj,aX,aW,AV.v.injEq,Value.int.injEq,Value.bool.injEq,Value.string.injEq,AV.vec.injEq,AV.ptr.injEq,true_or,or_true,false_or,or_false,aa.mk.injEq,forall_eq_apply_imp_iff,forall_eq,forall_eq',go_sem])
    all_goals first|rfl|trace_state
   ·rw [hb] at eS;simp only [if_true] at eS
    have eA:cur.map encS++[[AV.v (.string kl[k])]]=((kl.take (k+1)).filter (hasB bound)).map encS:=by rw [eS,List.map_append];rfl
    have eB:cur.length+1=((kl.take (k+1)).filter (hasB bound)).length:=by rw [eS];simp
    repeat (first|(with_reducible first|refine af.up ?_|refine fun (K:AK) hK=> ?_|(refine hK _ ?_;clear hK K))|simp only [go_sem,hb]|with_reducible refine wA ?_|clear hK K)
    repeat (first|(with_reducible first|refine af.up ?_|refine fun (K:AK) hK=> ?_|(refine hK _ ?_;clear hK K))|simp only [go_sem,eW]|with_reducible refine wA ?_|clear hK K)
    refine aM.mk (k+1) hlt (by omega) ?_;simp only [eA,eB]
    (refine ak ?_ ?_ ?_<;>simp only [aR,SI,SL,Ti,Tj,aX,aW,AV.v.injEq,Value.int.injEq,Value.bool.injEq,Value.string.injEq,AV.vec.injEq,AV.ptr.injEq,true_or,or_true,false_or,or_false,aa.mk.injEq,forall_eq_apply_imp_iff,forall_eq,forall_eq',go_sem])
    all_goals first|rfl|trace_state
  ·have hkn:k=kl.length:=by omega
   have e1:decide ((k:Int)<(kl.length:Int))=false:=decide_eq_false (by omega);rw [hkn] at e1;rw [hkn,Tr]
   repeat ((fail_if_success (with_reducible refine bD (i:=9) ?_));first|(with_reducible first|refine af.up ?_|refine fun (K:AK) hK=> ?_|(refine hK _ ?_;clear hK K))|simp only [go_sem,e1]|with_reducible refine wA ?_|clear hK K)
   have ways:((!h)=false∧(!h)=false∧aS ⟨f,t,h,l,n, .mk xk xs xl⟩=[f,t])∨((!h)=true∧(n.toList==(⟨#[]⟩:ByteArray).toList)=true∧aS ⟨f,t,h,l,n, .mk xk xs xl⟩=[f,t])∨((!h)=true∧(n.toList==(⟨#[]⟩:ByteArray).toList)=false∧aS ⟨f,t,h,l,n, .mk xk xs xl⟩=[f,t,n]):=by
    rw [<-kV];unfold aS
    cases h
    ·cases hn:fb n
     ·exact .inr (.inr ⟨rfl,rfl,by simp [hn]⟩)
     ·exact .inr (.inl ⟨rfl,rfl,by simp [hn]⟩)
    ·exact .inl ⟨rfl,rfl,by simp⟩
   have hnb:bound.length<=now.length:=by rw [hpre];simp
   have r1:((now.map encS).drop bound.length).take (now.length - bound.length)=(now.drop bound.length).map encS:=by
    rw [<-Ua];exact List.take_of_length_le (by simp)
   have r2:(now.drop bound.length).length=now.length - bound.length:=by simp
   have r3:(bound.length:Int)<=(now.length:Int):=by omega
   have r4:(0:Int)<=(bound.length:Int):=by omega
   have eN:(now.map encS).length=now.length:=by simp
   have eKl:=eK kl
   have wfD: ∀m,dA m ((now.map encS).drop bound.length)=true:=fun m=>by rw [<-Ua];exact aA _ _
   have eKy:=eK (kl.filter (hasB bound));simp only [Ua,r2] at CS;clear eK hpre
   rcases ways with ⟨hh,hn,hL⟩|⟨hh,hn,hL⟩|⟨hh,hn,hL⟩
   ·rw [hL] at UN
    repeat ((fail_if_success (with_reducible refine bD (i:=11) ?_));first|(with_reducible first|refine af.up ?_|refine fun (K:AK) hK=> ?_|(refine hK _ ?_;clear hK K))|simp only [go_sem,hh,hn,Go.undef]|with_reducible refine wA ?_|clear hK K)
    repeat (first|(with_reducible first|refine af.up ?_|refine fun (K:AK) hK=> ?_|(refine hK _ ?_;clear hK K))|simp only [go_sem]|with_reducible refine wA ?_|clear hK K)
    refine ab.fr [1] CL (by simp) ?_ ?_ ?_ ?_ ?_
    ·simp only [TN,TT,Su,Tc,RI,aa.bc,eZ]
    ·rfl
    ·rfl
    ·intro j ob hj
     match j,hj with
     | 0,hj=>cases hj;exact aA _ _
     | j+1,hj=>simp at hj
    repeat (first|(with_reducible first|refine af.up ?_|refine fun (K:AK) hK=> ?_|(refine hK _ ?_;clear hK K))|simp only [go_sem,eZ]|with_reducible refine wA ?_|clear hK K)
    refine ab.fr [8,5] UN (by simp) ?_ ?_ ?_ ?_ ?_
    ·simp only [TN,TT,Su,Tc,RI,aa.bc,bW,bV,AV.bc,eZ,encS]
    ·rfl
    ·rfl
    ·intro j ob hj
     match j,hj with
     | 0,hj=>cases hj;exact aA _ _
     | 1,hj=>cases hj;rfl
     | j+2,hj=>simp at hj
    repeat ((fail_if_success (with_reducible refine bD (i:=12) ?_));first|(with_reducible first|refine af.up ?_|refine fun (K:AK) hK=> ?_|(refine hK _ ?_;clear hK K))|simp only [go_sem,eZ]|with_reducible refine wA ?_|clear hK K)
    refine aJ (db 11 8 rfl rfl rfl eN) (by kernel_rfl) ?_
    repeat (first|(with_reducible first|refine af.up ?_|refine fun (K:AK) hK=> ?_|(refine hK _ ?_;clear hK K))|simp only [go_sem,r1,r3,r4,eN]|with_reducible refine wA ?_|clear hK K)
    refine ab.one CS ?_
    repeat ((fail_if_success (with_reducible refine bD (i:=13) ?_));first|(with_reducible first|refine af.up ?_|refine fun (K:AK) hK=> ?_|(refine hK _ ?_;clear hK K))|simp only [go_sem]|with_reducible refine wA ?_|clear hK K)
    refine aJ (bY (k:=4) (i:=0) (j:=10) 67 13 (by decide) rfl (T0 _) rfl rfl) (by kernel_rfl) ?_
    repeat (first|(with_reducible first|refine af.up ?_|refine fun (K:AK) hK=> ?_|(refine hK _ ?_;clear hK K))|simp only [go_sem]|with_reducible refine wA ?_|clear hK K)
    refine dG (ι:=Nat) 12 67 13 rfl (by decide) 68 (fun k=>[(12, .vec 10 ((ws.take k).filter (fun c=> !aN c now)).length),(14, .undef),(67, .v (.int .i64 k))]) (fun k=>[some ⟨23,1,false,[[.aC 13 (ws.map aH) ws.length]]⟩,some ⟨9,1,true,bound.map encS⟩,some ⟨40,8,false,[[.v (.string f), .v (.string t), .v (.bool h), .v (.string l), .v (.string n), .v (.int .i64 xk), .v (.string xs), .aC 3 (xl.map bg) xl.length]]⟩,some ⟨45,11,false,[[.v (.string ⟨#[]⟩), .v (.string ⟨#[]⟩), .v (.bool false), .v (.string ⟨#[]⟩), .v (.string ⟨#[]⟩), .v (.int .i64 0), .v (.string ⟨#[]⟩), .v (.slice none 0 0), .v (.slice none 0 0), .v (.slice none 0 0), .v (.slice none 0 0)]]⟩,some ⟨45,11,false,[[.v (.string f), .v (.string t), .v (.bool h), .v (.string l), .v (.string n), .v (.int .i64 xk), .v (.string xs), .aC 3 (xl.map bg) xl.length, .vec 6 (kl.filter (hasB bound)).length, .aC 1 ((now.map encS).drop bound.length) (now.length - bound.length), .vec 9 ((ws.take k).filter (fun c=>aN c now)).length]]⟩,none,some ⟨9,1,true,(kl.filter (hasB bound)).map encS⟩,none,none,some ⟨67,13,true,((ws.take k).filter (fun c=>aN c now)).map aH⟩,some ⟨67,13,true,((ws.take k).filter (fun c=> !aN c now)).map aH⟩]) (fun k=>ws.length - k) (fun k=>k<=ws.length) 0 (Rh _) ?_ ?_
    ·simp only [TE,T8,Q9,TT,Ua]
     (refine ak ?_ ?_ ?_<;>simp only [aR,SI,SL,Ti,Tj,aX,aW,AV.v.injEq,Value.int.injEq,Value.bool.injEq,Value.string.injEq,AV.vec.injEq,AV.ptr.injEq,true_or,or_true,false_or,or_false,aa.mk.injEq,forall_eq_apply_imp_iff,forall_eq,forall_eq',go_sem])
     all_goals first|rfl|exact ⟨wfD _,wfD _,rfl⟩|exact wfD _|trace_state
    ·intro j hj K hK;have eWj:=aD (k:=j) (by omega)
     by_cases hltj:j<ws.length
     ·have e2:decide ((j:Int)<(ws.length:Int))=true:=decide_eq_true (by omega);have eG:=getD_map aH ws j [] hltj;have eS1:=cG (fun c=>aN c now) ws hltj;have eS2:=cG (fun c=> !aN c now) ws hltj;have C:=iE ws[j] now;have l1:((ws.take j).filter (fun c=>aN c now)).length<=100000:=Q6 (T9 _ _) (by rw [RB];omega);have l2:((ws.take j).filter (fun c=> !aN c now)).length<=100000:=Q6 (T9 _ _) (by rw [RB];omega);generalize (ws.take j).filter (fun c=>aN c now)=cs1 at *;generalize (ws.take j).filter (fun c=> !aN c now)=cs2 at *
      have eL1:(cs1.map aH).length=cs1.length:=by simp
      have eL2:(cs2.map aH).length=cs2.length:=by simp
      have eC1:cs1.map aH++[aH ws[j]]=(cs1++[ws[j]]).map aH:=by simp
      have eC2:cs2.map aH++[aH ws[j]]=(cs2++[ws[j]]).map aH:=by simp
      have eD1:cs1.length+1=(cs1++[ws[j]]).length:=by simp
      have eD2:cs2.length+1=(cs2++[ws[j]]).length:=by simp
      simp only [aK,aH] at C;simp only [aH] at eG eC1 eC2
      repeat (first|(with_reducible first|refine af.up ?_|refine fun (K:AK) hK=> ?_|(refine hK _ ?_;clear hK K))|simp only [go_sem,e2,eG]|with_reducible refine wA ?_|clear hK K)
      refine ab.one C ?_
      cases hrp:aN ws[j] now
      ·simp only [hrp,Ub,SV,if_false,if_true] at eS1 eS2
       repeat (first|(with_reducible first|refine af.up ?_|refine fun (K:AK) hK=> ?_|(refine hK _ ?_;clear hK K))|simp only [go_sem,hrp]|with_reducible refine wA ?_|clear hK K)
       repeat (first|(with_reducible first|refine af.up ?_|refine fun (K:AK) hK=> ?_|(refine hK _ ?_;clear hK K))|simp only [go_sem,eWj]|with_reducible refine wA ?_|clear hK K)
       refine aM.mk (j+1) hltj (by omega) ?_;simp only [eS1,eS2,eC2,eD2]
       (refine ak ?_ ?_ ?_<;>simp only [aR,SI,SL,Ti,Tj,aX,aW,AV.v.injEq,Value.int.injEq,Value.bool.injEq,Value.string.injEq,AV.vec.injEq,AV.ptr.injEq,true_or,or_true,false_or,or_false,aa.mk.injEq,forall_eq_apply_imp_iff,forall_eq,forall_eq',go_sem])
       all_goals first|rfl|exact ⟨wfD _,wfD _,rfl⟩|exact wfD _|trace_state
      ·simp only [hrp,Uc,SV,if_false,if_true] at eS1 eS2
       repeat (first|(with_reducible first|refine af.up ?_|refine fun (K:AK) hK=> ?_|(refine hK _ ?_;clear hK K))|simp only [go_sem,hrp]|with_reducible refine wA ?_|clear hK K)
       repeat (first|(with_reducible first|refine af.up ?_|refine fun (K:AK) hK=> ?_|(refine hK _ ?_;clear hK K))|simp only [go_sem,eWj]|with_reducible refine wA ?_|clear hK K)
       refine aM.mk (j+1) hltj (by omega) ?_;simp only [eS1,eS2,eC1,eD1]
       (refine ak ?_ ?_ ?_<;>simp only [aR,SI,SL,Ti,Tj,aX,aW,AV.v.injEq,Value.int.injEq,Value.bool.injEq,Value.string.injEq,AV.vec.injEq,AV.ptr.injEq,true_or,or_true,false_or,or_false,aa.mk.injEq,forall_eq_apply_imp_iff,forall_eq,forall_eq',go_sem])
       all_goals first|rfl|exact ⟨wfD _,wfD _,rfl⟩|exact wfD _|trace_state
     ·have hjn:j=ws.length:=by omega
      have e2:decide ((j:Int)<(ws.length:Int))=false:=decide_eq_false (by omega);rw [hjn] at e2;rw [hjn,Tr]
      repeat ((fail_if_success (with_reducible refine bD (i:=21) ?_));first|(with_reducible first|refine af.up ?_|refine fun (K:AK) hK=> ?_|(refine hK _ ?_;clear hK K))|simp only [go_sem,e2]|with_reducible refine wA ?_|clear hK K)
      refine aJ (db 12 10 rfl rfl rfl (R5 _)) (by kernel_rfl) ?_;refine aJ (cA (k:=4) (i:=0) (j:=8) (by decide) rfl (T0 _) rfl rfl rfl rfl (R5 _)) (by kernel_rfl) ?_;refine aJ (cA (k:=4) (i:=0) (j:=10) (by decide) rfl (T0 _) rfl rfl rfl rfl (R5 _)) (by kernel_rfl) ?_
      repeat (first|(with_reducible first|refine af.up ?_|refine fun (K:AK) hK=> ?_|(refine hK _ ?_;clear hK K))|simp only [go_sem]|with_reducible refine wA ?_|clear hK K)
      simp only [Ua,T7]
      (refine ⟨?_, ?_, ?_⟩<;>simp only [aX,aW,AV.v.injEq,Value.int.injEq,Value.bool.injEq,Value.string.injEq,AV.vec.injEq,AV.ptr.injEq,true_or,or_true,false_or,or_false,aa.mk.injEq,forall_eq_apply_imp_iff,forall_eq,forall_eq',go_sem])
      all_goals first|rfl|exact ⟨wfD _,wfD _,rfl⟩|exact wfD _|trace_state
   ·rw [hL] at UN
    repeat ((fail_if_success (with_reducible refine bD (i:=11) ?_));first|(with_reducible first|refine af.up ?_|refine fun (K:AK) hK=> ?_|(refine hK _ ?_;clear hK K))|simp only [go_sem,hh,hn,Go.undef]|with_reducible refine wA ?_|clear hK K)
    repeat (first|(with_reducible first|refine af.up ?_|refine fun (K:AK) hK=> ?_|(refine hK _ ?_;clear hK K))|simp only [go_sem]|with_reducible refine wA ?_|clear hK K)
    refine ab.fr [1] CL (by simp) ?_ ?_ ?_ ?_ ?_
    ·simp only [TN,TT,Su,Tc,RI,aa.bc,eZ]
    ·rfl
    ·rfl
    ·intro j ob hj
     match j,hj with
     | 0,hj=>cases hj;exact aA _ _
     | j+1,hj=>simp at hj
    repeat (first|(with_reducible first|refine af.up ?_|refine fun (K:AK) hK=> ?_|(refine hK _ ?_;clear hK K))|simp only [go_sem,eZ]|with_reducible refine wA ?_|clear hK K)
    refine ab.fr [8,5] UN (by simp) ?_ ?_ ?_ ?_ ?_
    ·simp only [TN,TT,Su,Tc,RI,aa.bc,bW,bV,AV.bc,eZ,encS]
    ·rfl
    ·rfl
    ·intro j ob hj
     match j,hj with
     | 0,hj=>cases hj;exact aA _ _
     | 1,hj=>cases hj;rfl
     | j+2,hj=>simp at hj
    repeat ((fail_if_success (with_reducible refine bD (i:=12) ?_));first|(with_reducible first|refine af.up ?_|refine fun (K:AK) hK=> ?_|(refine hK _ ?_;clear hK K))|simp only [go_sem,eZ]|with_reducible refine wA ?_|clear hK K)
    refine aJ (db 11 8 rfl rfl rfl eN) (by kernel_rfl) ?_
    repeat (first|(with_reducible first|refine af.up ?_|refine fun (K:AK) hK=> ?_|(refine hK _ ?_;clear hK K))|simp only [go_sem,r1,r3,r4,eN]|with_reducible refine wA ?_|clear hK K)
    refine ab.one CS ?_
    repeat ((fail_if_success (with_reducible refine bD (i:=13) ?_));first|(with_reducible first|refine af.up ?_|refine fun (K:AK) hK=> ?_|(refine hK _ ?_;clear hK K))|simp only [go_sem]|with_reducible refine wA ?_|clear hK K)
    refine aJ (bY (k:=4) (i:=0) (j:=10) 67 13 (by decide) rfl (T0 _) rfl rfl) (by kernel_rfl) ?_
    repeat (first|(with_reducible first|refine af.up ?_|refine fun (K:AK) hK=> ?_|(refine hK _ ?_;clear hK K))|simp only [go_sem]|with_reducible refine wA ?_|clear hK K)
    refine dG (ι:=Nat) 12 67 13 rfl (by decide) 68 (fun k=>[(12, .vec 10 ((ws.take k).filter (fun c=> !aN c now)).length),(14, .undef),(67, .v (.int .i64 k))]) (fun k=>[some ⟨23,1,false,[[.aC 13 (ws.map aH) ws.length]]⟩,some ⟨9,1,true,bound.map encS⟩,some ⟨40,8,false,[[.v (.string f), .v (.string t), .v (.bool h), .v (.string l), .v (.string n), .v (.int .i64 xk), .v (.string xs), .aC 3 (xl.map bg) xl.length]]⟩,some ⟨45,11,false,[[.v (.string ⟨#[]⟩), .v (.string ⟨#[]⟩), .v (.bool false), .v (.string ⟨#[]⟩), .v (.string ⟨#[]⟩), .v (.int .i64 0), .v (.string ⟨#[]⟩), .v (.slice none 0 0), .v (.slice none 0 0), .v (.slice none 0 0), .v (.slice none 0 0)]]⟩,some ⟨45,11,false,[[.v (.string f), .v (.string t), .v (.bool h), .v (.string l), .v (.string n), .v (.int .i64 xk), .v (.string xs), .aC 3 (xl.map bg) xl.length, .vec 6 (kl.filter (hasB bound)).length, .aC 1 ((now.map encS).drop bound.length) (now.length - bound.length), .vec 9 ((ws.take k).filter (fun c=>aN c now)).length]]⟩,none,some ⟨9,1,true,(kl.filter (hasB bound)).map encS⟩,none,none,some ⟨67,13,true,((ws.take k).filter (fun c=>aN c now)).map aH⟩,some ⟨67,13,true,((ws.take k).filter (fun c=> !aN c now)).map aH⟩]) (fun k=>ws.length - k) (fun k=>k<=ws.length) 0 (Rh _) ?_ ?_
    ·simp only [TE,T8,Q9,TT,Ua]
     (refine ak ?_ ?_ ?_<;>simp only [aR,SI,SL,Ti,Tj,aX,aW,AV.v.injEq,Value.int.injEq,Value.bool.injEq,Value.string.injEq,AV.vec.injEq,AV.ptr.injEq,true_or,or_true,false_or,or_false,aa.mk.injEq,forall_eq_apply_imp_iff,forall_eq,forall_eq',go_sem])
     all_goals first|rfl|exact ⟨wfD _,wfD _,rfl⟩|exact wfD _|trace_state
    ·intro j hj K hK;have eWj:=aD (k:=j) (by omega)
     by_cases hltj:j<ws.length
     ·have e2:decide ((j:Int)<(ws.length:Int))=true:=decide_eq_true (by omega);have eG:=getD_map aH ws j [] hltj;have eS1:=cG (fun c=>aN c now) ws hltj;have eS2:=cG (fun c=> !aN c now) ws hltj;have C:=iE ws[j] now;have l1:((ws.take j).filter (fun c=>aN c now)).length<=100000:=Q6 (T9 _ _) (by rw [RB];omega);have l2:((ws.take j).filter (fun c=> !aN c now)).length<=100000:=Q6 (T9 _ _) (by rw [RB];omega);generalize (ws.take j).filter (fun c=>aN c now)=cs1 at *;generalize (ws.take j).filter (fun c=> !aN c now)=cs2 at *
      have eL1:(cs1.map aH).length=cs1.length:=by simp
      have eL2:(cs2.map aH).length=cs2.length:=by simp
      have eC1:cs1.map aH++[aH ws[j]]=(cs1++[ws[j]]).map aH:=by simp
      have eC2:cs2.map aH++[aH ws[j]]=(cs2++[ws[j]]).map aH:=by simp
      have eD1:cs1.length+1=(cs1++[ws[j]]).length:=by simp
      have eD2:cs2.length+1=(cs2++[ws[j]]).length:=by simp
      simp only [aK,aH] at C;simp only [aH] at eG eC1 eC2
      repeat (first|(with_reducible first|refine af.up ?_|refine fun (K:AK) hK=> ?_|(refine hK _ ?_;clear hK K))|simp only [go_sem,e2,eG]|with_reducible refine wA ?_|clear hK K)
      refine ab.one C ?_
      cases hrp:aN ws[j] now
      ·simp only [hrp,Ub,SV,if_false,if_true] at eS1 eS2
       repeat (first|(with_reducible first|refine af.up ?_|refine fun (K:AK) hK=> ?_|(refine hK _ ?_;clear hK K))|simp only [go_sem,hrp]|with_reducible refine wA ?_|clear hK K)
       repeat (first|(with_reducible first|refine af.up ?_|refine fun (K:AK) hK=> ?_|(refine hK _ ?_;clear hK K))|simp only [go_sem,eWj]|with_reducible refine wA ?_|clear hK K)
       refine aM.mk (j+1) hltj (by omega) ?_;simp only [eS1,eS2,eC2,eD2]
       (refine ak ?_ ?_ ?_<;>simp only [aR,SI,SL,Ti,Tj,aX,aW,AV.v.injEq,Value.int.injEq,Value.bool.injEq,Value.string.injEq,AV.vec.injEq,AV.ptr.injEq,true_or,or_true,false_or,or_false,aa.mk.injEq,forall_eq_apply_imp_iff,forall_eq,forall_eq',go_sem])
       all_goals first|rfl|exact ⟨wfD _,wfD _,rfl⟩|exact wfD _|trace_state
      ·simp only [hrp,Uc,SV,if_false,if_true] at eS1 eS2
       repeat (first|(with_reducible first|refine af.up ?_|refine fun (K:AK) hK=> ?_|(refine hK _ ?_;clear hK K))|simp only [go_sem,hrp]|with_reducible refine wA ?_|clear hK K)
       repeat (first|(with_reducible first|refine af.up ?_|refine fun (K:AK) hK=> ?_|(refine hK _ ?_;clear hK K))|simp only [go_sem,eWj]|with_reducible refine wA ?_|clear hK K)
       refine aM.mk (j+1) hltj (by omega) ?_;simp only [eS1,eS2,eC1,eD1]
       (refine ak ?_ ?_ ?_<;>simp only [aR,SI,SL,Ti,Tj,aX,aW,AV.v.injEq,Value.int.injEq,Value.bool.injEq,Value.string.injEq,AV.vec.injEq,AV.ptr.injEq,true_or,or_true,false_or,or_false,aa.mk.injEq,forall_eq_apply_imp_iff,forall_eq,forall_eq',go_sem])
       all_goals first|rfl|exact ⟨wfD _,wfD _,rfl⟩|exact wfD _|trace_state
     ·have hjn:j=ws.length:=by omega
      have e2:decide ((j:Int)<(ws.length:Int))=false:=decide_eq_false (by omega);rw [hjn] at e2;rw [hjn,Tr]
      repeat ((fail_if_success (with_reducible refine bD (i:=21) ?_));first|(with_reducible first|refine af.up ?_|refine fun (K:AK) hK=> ?_|(refine hK _ ?_;clear hK K))|simp only [go_sem,e2]|with_reducible refine wA ?_|clear hK K)
      refine aJ (db 12 10 rfl rfl rfl (R5 _)) (by kernel_rfl) ?_;refine aJ (cA (k:=4) (i:=0) (j:=8) (by decide) rfl (T0 _) rfl rfl rfl rfl (R5 _)) (by kernel_rfl) ?_;refine aJ (cA (k:=4) (i:=0) (j:=10) (by decide) rfl (T0 _) rfl rfl rfl rfl (R5 _)) (by kernel_rfl) ?_
      repeat (first|(with_reducible first|refine af.up ?_|refine fun (K:AK) hK=> ?_|(refine hK _ ?_;clear hK K))|simp only [go_sem]|with_reducible refine wA ?_|clear hK K)
      simp only [Ua,T7]
      (refine ⟨?_, ?_, ?_⟩<;>simp only [aX,aW,AV.v.injEq,Value.int.injEq,Value.bool.injEq,Value.string.injEq,AV.vec.injEq,AV.ptr.injEq,true_or,or_true,false_or,or_false,aa.mk.injEq,forall_eq_apply_imp_iff,forall_eq,forall_eq',go_sem])
      all_goals first|rfl|exact ⟨wfD _,wfD _,rfl⟩|exact wfD _|trace_state
   ·rw [hL] at UN
    repeat ((fail_if_success (with_reducible refine bD (i:=10) ?_));first|(with_reducible first|refine af.up ?_|refine fun (K:AK) hK=> ?_|(refine hK _ ?_;clear hK K))|simp only [go_sem,hh,hn,Go.undef]|with_reducible refine wA ?_|clear hK K)
    refine pw (AS.mk (aR 90 [(1, .vec 1 bound.length),(2, .ptr 0 0 1 0 0),(3, .ptr 2 0 8 0 0),(6, .ptr 3 0 11 0 0),(7, .ptr 4 0 11 0 0),(8, .vec 5 3)]) [some ⟨23,1,false,[[.aC 13 (ws.map aH) ws.length]]⟩,some ⟨9,1,true,bound.map encS⟩,some ⟨40,8,false,[[.v (.string f), .v (.string t), .v (.bool h), .v (.string l), .v (.string n), .v (.int .i64 xk), .v (.string xs), .aC 3 (xl.map bg) xl.length]]⟩,some ⟨45,11,false,[[.v (.string ⟨#[]⟩), .v (.string ⟨#[]⟩), .v (.bool false), .v (.string ⟨#[]⟩), .v (.string ⟨#[]⟩), .v (.int .i64 0), .v (.string ⟨#[]⟩), .v (.slice none 0 0), .v (.slice none 0 0), .v (.slice none 0 0), .v (.slice none 0 0)]]⟩,some ⟨45,11,false,[[.v (.string f), .v (.string t), .v (.bool h), .v (.string l), .v (.string n), .v (.int .i64 xk), .v (.string xs), .aC 3 (xl.map bg) xl.length, .vec 6 (kl.filter (hasB bound)).length, .v (.slice none 0 0), .v (.slice none 0 0)]]⟩,some ⟨9,1,true,[[.v (.string f)],[.v (.string t)],[.v (.string n)]]⟩,some ⟨9,1,true,(kl.filter (hasB bound)).map encS⟩,some ⟨9,1,true,kl.map encS⟩] .no) (by kernel_rfl) ?_ ?_
    ·repeat (first|(with_reducible first|refine af.up ?_|refine fun (K:AK) hK=> ?_|(refine hK _ ?_;clear hK K))|simp only [go_sem]|with_reducible refine wA ?_|clear hK K)
     (refine ak ?_ ?_ ?_<;>simp only [aR,SI,SL,Ti,Tj,aX,aW,AV.v.injEq,Value.int.injEq,Value.bool.injEq,Value.string.injEq,AV.vec.injEq,AV.ptr.injEq,true_or,or_true,false_or,or_false,aa.mk.injEq,forall_eq_apply_imp_iff,forall_eq,forall_eq',go_sem])
     all_goals first|rfl|trace_state
    simp only [aR,SI,SL,Ti,Tj,go_sem]
    repeat ((fail_if_success (with_reducible refine bD (i:=11) ?_));first|(with_reducible first|refine af.up ?_|refine fun (K:AK) hK=> ?_|(refine hK _ ?_;clear hK K))|simp only [go_sem]|with_reducible refine wA ?_|clear hK K)
    repeat (first|(with_reducible first|refine af.up ?_|refine fun (K:AK) hK=> ?_|(refine hK _ ?_;clear hK K))|simp only [go_sem]|with_reducible refine wA ?_|clear hK K)
    refine ab.fr [1] CL (by simp) ?_ ?_ ?_ ?_ ?_
    ·simp only [TN,TT,Su,Tc,RI,aa.bc,eZ]
    ·rfl
    ·rfl
    ·intro j ob hj
     match j,hj with
     | 0,hj=>cases hj;exact aA _ _
     | j+1,hj=>simp at hj
    repeat (first|(with_reducible first|refine af.up ?_|refine fun (K:AK) hK=> ?_|(refine hK _ ?_;clear hK K))|simp only [go_sem,eZ]|with_reducible refine wA ?_|clear hK K)
    refine ab.fr [8,5] UN (by simp) ?_ ?_ ?_ ?_ ?_
    ·simp only [TN,TT,Su,Tc,RI,aa.bc,bW,bV,AV.bc,eZ,encS]
    ·rfl
    ·rfl
    ·intro j ob hj
     match j,hj with
     | 0,hj=>cases hj;exact aA _ _
     | 1,hj=>cases hj;rfl
     | j+2,hj=>simp at hj
    repeat ((fail_if_success (with_reducible refine bD (i:=12) ?_));first|(with_reducible first|refine af.up ?_|refine fun (K:AK) hK=> ?_|(refine hK _ ?_;clear hK K))|simp only [go_sem,eZ]|with_reducible refine wA ?_|clear hK K)
    refine aJ (db 11 8 rfl rfl rfl eN) (by kernel_rfl) ?_
    repeat (first|(with_reducible first|refine af.up ?_|refine fun (K:AK) hK=> ?_|(refine hK _ ?_;clear hK K))|simp only [go_sem,r1,r3,r4,eN]|with_reducible refine wA ?_|clear hK K)
    refine ab.one CS ?_
    repeat ((fail_if_success (with_reducible refine bD (i:=13) ?_));first|(with_reducible first|refine af.up ?_|refine fun (K:AK) hK=> ?_|(refine hK _ ?_;clear hK K))|simp only [go_sem]|with_reducible refine wA ?_|clear hK K)
    refine aJ (bY (k:=4) (i:=0) (j:=10) 67 13 (by decide) rfl (T0 _) rfl rfl) (by kernel_rfl) ?_
    repeat (first|(with_reducible first|refine af.up ?_|refine fun (K:AK) hK=> ?_|(refine hK _ ?_;clear hK K))|simp only [go_sem]|with_reducible refine wA ?_|clear hK K)
    refine dG (ι:=Nat) 12 67 13 rfl (by decide) 68 (fun k=>[(12, .vec 10 ((ws.take k).filter (fun c=> !aN c now)).length),(14, .undef),(67, .v (.int .i64 k))]) (fun k=>[some ⟨23,1,false,[[.aC 13 (ws.map aH) ws.length]]⟩,some ⟨9,1,true,bound.map encS⟩,some ⟨40,8,false,[[.v (.string f), .v (.string t), .v (.bool h), .v (.string l), .v (.string n), .v (.int .i64 xk), .v (.string xs), .aC 3 (xl.map bg) xl.length]]⟩,some ⟨45,11,false,[[.v (.string ⟨#[]⟩), .v (.string ⟨#[]⟩), .v (.bool false), .v (.string ⟨#[]⟩), .v (.string ⟨#[]⟩), .v (.int .i64 0), .v (.string ⟨#[]⟩), .v (.slice none 0 0), .v (.slice none 0 0), .v (.slice none 0 0), .v (.slice none 0 0)]]⟩,some ⟨45,11,false,[[.v (.string f), .v (.string t), .v (.bool h), .v (.string l), .v (.string n), .v (.int .i64 xk), .v (.string xs), .aC 3 (xl.map bg) xl.length, .vec 6 (kl.filter (hasB bound)).length, .aC 1 ((now.map encS).drop bound.length) (now.length - bound.length), .vec 9 ((ws.take k).filter (fun c=>aN c now)).length]]⟩,none,some ⟨9,1,true,(kl.filter (hasB bound)).map encS⟩,none,none,some ⟨67,13,true,((ws.take k).filter (fun c=>aN c now)).map aH⟩,some ⟨67,13,true,((ws.take k).filter (fun c=> !aN c now)).map aH⟩]) (fun k=>ws.length - k) (fun k=>k<=ws.length) 0 (Rh _) ?_ ?_
    ·simp only [TE,T8,Q9,TT,Ua]
     (refine ak ?_ ?_ ?_<;>simp only [aR,SI,SL,Ti,Tj,aX,aW,AV.v.injEq,Value.int.injEq,Value.bool.injEq,Value.string.injEq,AV.vec.injEq,AV.ptr.injEq,true_or,or_true,false_or,or_false,aa.mk.injEq,forall_eq_apply_imp_iff,forall_eq,forall_eq',go_sem])
     all_goals first|rfl|exact ⟨wfD _,wfD _,rfl⟩|exact wfD _|trace_state
    ·intro j hj K hK;have eWj:=aD (k:=j) (by omega)
     by_cases hltj:j<ws.length
     ·have e2:decide ((j:Int)<(ws.length:Int))=true:=decide_eq_true (by omega);have eG:=getD_map aH ws j [] hltj;have eS1:=cG (fun c=>aN c now) ws hltj;have eS2:=cG (fun c=> !aN c now) ws hltj;have C:=iE ws[j] now;have l1:((ws.take j).filter (fun c=>aN c now)).length<=100000:=Q6 (T9 _ _) (by rw [RB];omega);have l2:((ws.take j).filter (fun c=> !aN c now)).length<=100000:=Q6 (T9 _ _) (by rw [RB];omega);generalize (ws.take j).filter (fun c=>aN c now)=cs1 at *;generalize (ws.take j).filter (fun c=> !aN c now)=cs2 at *
      have eL1:(cs1.map aH).length=cs1.length:=by simp
      have eL2:(cs2.map aH).length=cs2.length:=by simp
      have eC1:cs1.map aH++[aH ws[j]]=(cs1++[ws[j]]).map aH:=by simp
      have eC2:cs2.map aH++[aH ws[j]]=(cs2++[ws[j]]).map aH:=by simp
      have eD1:cs1.length+1=(cs1++[ws[j]]).length:=by simp
      have eD2:cs2.length+1=(cs2++[ws[j]]).length:=by simp
      simp only [aK,aH] at C;simp only [aH] at eG eC1 eC2
      repeat (first|(with_reducible first|refine af.up ?_|refine fun (K:AK) hK=> ?_|(refine hK _ ?_;clear hK K))|simp only [go_sem,e2,eG]|with_reducible refine wA ?_|clear hK K)
      refine ab.one C ?_
      cases hrp:aN ws[j] now
      ·simp only [hrp,Ub,SV,if_false,if_true] at eS1 eS2
       repeat (first|(with_reducible first|refine af.up ?_|refine fun (K:AK) hK=> ?_|(refine hK _ ?_;clear hK K))|simp only [go_sem,hrp]|with_reducible refine wA ?_|clear hK K)
       repeat (first|(with_reducible first|refine af.up ?_|refine fun (K:AK) hK=> ?_|(refine hK _ ?_;clear hK K))|simp only [go_sem,eWj]|with_reducible refine wA ?_|clear hK K)
       refine aM.mk (j+1) hltj (by omega) ?_;simp only [eS1,eS2,eC2,eD2]
       (refine ak ?_ ?_ ?_<;>simp only [aR,SI,SL,Ti,Tj,aX,aW,AV.v.injEq,Value.int.injEq,Value.bool.injEq,Value.string.injEq,AV.vec.injEq,AV.ptr.injEq,true_or,or_true,false_or,or_false,aa.mk.injEq,forall_eq_apply_imp_iff,forall_eq,forall_eq',go_sem])
       all_goals first|rfl|exact ⟨wfD _,wfD _,rfl⟩|exact wfD _|trace_state
      ·simp only [hrp,Uc,SV,if_false,if_true] at eS1 eS2
       repeat (first|(with_reducible first|refine af.up ?_|refine fun (K:AK) hK=> ?_|(refine hK _ ?_;clear hK K))|simp only [go_sem,hrp]|with_reducible refine wA ?_|clear hK K)
       repeat (first|(with_reducible first|refine af.up ?_|refine fun (K:AK) hK=> ?_|(refine hK _ ?_;clear hK K))|simp only [go_sem,eWj]|with_reducible refine wA ?_|clear hK K)
       refine aM.mk (j+1) hltj (by omega) ?_;simp only [eS1,eS2,eC1,eD1]
       (refine ak ?_ ?_ ?_<;>simp only [aR,SI,SL,Ti,Tj,aX,aW,AV.v.injEq,Value.int.injEq,Value.bool.injEq,Value.string.injEq,AV.vec.injEq,AV.ptr.injEq,true_or,or_true,false_or,or_false,aa.mk.injEq,forall_eq_apply_imp_iff,forall_eq,forall_eq',go_sem])
       all_goals first|rfl|exact ⟨wfD _,wfD _,rfl⟩|exact wfD _|trace_state
     ·have hjn:j=ws.length:=by omega
      have e2:decide ((j:Int)<(ws.length:Int))=false:=decide_eq_false (by omega);rw [hjn] at e2;rw [hjn,Tr]
      repeat ((fail_if_success (with_reducible refine bD (i:=21) ?_));first|(with_reducible first|refine af.up ?_|refine fun (K:AK) hK=> ?_|(refine hK _ ?_;clear hK K))|simp only [go_sem,e2]|with_reducible refine wA ?_|clear hK K)
      refine aJ (db 12 10 rfl rfl rfl (R5 _)) (by kernel_rfl) ?_;refine aJ (cA (k:=4) (i:=0) (j:=8) (by decide) rfl (T0 _) rfl rfl rfl rfl (R5 _)) (by kernel_rfl) ?_;refine aJ (cA (k:=4) (i:=0) (j:=10) (by decide) rfl (T0 _) rfl rfl rfl rfl (R5 _)) (by kernel_rfl) ?_
      repeat (first|(with_reducible first|refine af.up ?_|refine fun (K:AK) hK=> ?_|(refine hK _ ?_;clear hK K))|simp only [go_sem]|with_reducible refine wA ?_|clear hK K)
      simp only [Ua,T7]
      (refine ⟨?_, ?_, ?_⟩<;>simp only [aX,aW,AV.v.injEq,Value.int.injEq,Value.bool.injEq,Value.string.injEq,AV.vec.injEq,AV.ptr.injEq,true_or,or_true,false_or,or_false,aa.mk.injEq,forall_eq_apply_imp_iff,forall_eq,forall_eq',go_sem])
      all_goals first|rfl|exact ⟨wfD _,wfD _,rfl⟩|exact wfD _|trace_state
theorem ag.ofNil {P:Program} {f:FuncId} {z:Nat} {rest:List AV} {r:AV} (h:ag P f (.aC z [] 0 :: rest) r):ag P f (.v (.slice none 0 0) :: rest) r:=by
 refine ⟨⟨?_,h.1.2⟩,h.2.1,fun D nu w vargs hro hra=>h.2.2 D nu w vargs hro ?_⟩
 ·have:=h.1.1
  simp only [bn,AV.wf,dA,Bool.true_and] at this ⊢;exact this
 ·refine ⟨hra.len,fun i c x h1 h2=> ?_⟩
  match i,h1 with
  | 0,h1=>
   cases h1
   have:=hra.at' 0 _ x rfl h2
   rw [this.cj];exact .bf z
  | i+1,h1=>exact hra.at' (i+1) c x h1 h2
theorem yI:bK Tryz.prog 75 [.v (.slice none 0 0)] [] (.v (.slice none 0 0)) []:=by
 (refine bK.enter Tryz.func75 rfl (by kernel_rfl) (by kernel_rfl) rfl ?_;simp only [Tryz.ntmps75,Tryz.results75,Rg,Q9,Nat.reduceAdd,Nat.reduceSub,Ti,Tj,List.cons_append,List.nil_append])
 repeat (first|(with_reducible first|refine af.up ?_|refine fun (K:AK) hK=> ?_|(refine hK _ ?_;clear hK K))|simp only [go_sem]|with_reducible refine wA ?_|clear hK K)
 (refine ⟨?_, ?_, ?_⟩<;>simp only [aX,aW,AV.v.injEq,Value.int.injEq,Value.bool.injEq,Value.string.injEq,AV.vec.injEq,AV.ptr.injEq,true_or,or_true,false_or,or_false,aa.mk.injEq,forall_eq_apply_imp_iff,forall_eq,forall_eq',go_sem])
theorem IQ (p:bQ) (ws:List ff) (hx:p.expr.lens 1000000) (hw:ws.length<=100000) :
  bK Tryz.prog 39 [.agg (bM p), .v (.slice none 0 0), .ptr 0 0 1 0 0] [some ⟨23,1,false,[[.aC 13 (ws.map aH) ws.length]]⟩]
   (.agg (bM p++[aK (keysOf p ([]:List ByteArray)),aK (bB p ([]:List ByteArray)), .aC 13 ((ws.filter (fun c=>aN c (bB p ([]:List ByteArray)))).map aH) (ws.filter (fun c=>aN c (bB p ([]:List ByteArray)))).length]))
   [some ⟨23,1,false,[[.aC 13 ((leftOf p ([]:List ByteArray) ws).map aH) (leftOf p ([]:List ByteArray) ws).length]]⟩]:=by
 have PC:=sU p hx;have U0:=nN [p.aR,p.to] (by simp);have CL:=yI;have hc0:=dR [];have UN:=nN (aS p) (by have:=gp p;omega);have hnl:=jb p ([]:List ByteArray);have CS:=Jj (bB p ([]:List ByteArray)) (by simp only [Q9] at hnl;omega);have eZ: ∀f l,bW f (List.map encS l)=List.map encS l:=fun f l=>bS _ _ (aA _ _)
 have eK: ∀kl:List ByteArray,(kl.map encS).length=kl.length:=fun kl=>by simp
 have hkl:=ea [p.aR,p.to] [];have ek:keysOf p ([]:List ByteArray)=([p.aR,p.to].foldl aq []).filter (hasB ([]:List ByteArray)):=rfl;generalize [p.aR,p.to].foldl aq []=kl at *;rw [ek];simp only [leftOf];rw [<-bB] at UN;generalize bB p ([]:List ByteArray)=now at *;obtain ⟨f,t,h,l,n,⟨xk,xs,xl⟩⟩:=p;simp only [bM,aK,Ex.kind,Ex.label,Ex.kids,Rg,Q9,Nat.reduceAdd] at *
 (refine bK.enter Tryz.func39 rfl (by kernel_rfl) (by kernel_rfl) rfl ?_;simp only [Tryz.ntmps39,Tryz.results39,Rg,Q9,Nat.reduceAdd,Nat.reduceSub,Ti,Tj,List.cons_append,List.nil_append])
 repeat (first|(with_reducible first|refine af.up ?_|refine fun (K:AK) hK=> ?_|(refine hK _ ?_;clear hK K))|simp only [go_sem]|with_reducible refine wA ?_|clear hK K)
 refine ab.one PC ?_
 repeat ((fail_if_success (with_reducible refine bD (i:=3) ?_));first|(with_reducible first|refine af.up ?_|refine fun (K:AK) hK=> ?_|(refine hK _ ?_;clear hK K))|simp only [go_sem]|with_reducible refine wA ?_|clear hK K)
 refine aJ (bY (k:=3) (i:=0) (j:=8) 9 1 (by decide) rfl (T0 _) rfl rfl) (by kernel_rfl) ?_
 repeat (first|(with_reducible first|refine af.up ?_|refine fun (K:AK) hK=> ?_|(refine hK _ ?_;clear hK K))|simp only [go_sem]|with_reducible refine wA ?_|clear hK K)
 refine ab.fr [4] U0 (by simp) ?_ ?_ ?_ ?_ ?_
 ·simp only [TN,TT,Su,Tc,RI,aa.bc,bW,bV,AV.bc,eZ,encS]
 ·rfl
 ·rfl
 ·intro j ob hj
  match j,hj with
  | 0,hj=>cases hj;exact aA _ [_,_]
  | j+1,hj=>simp at hj
 repeat (first|(with_reducible first|refine af.up ?_|refine fun (K:AK) hK=> ?_|(refine hK _ ?_;clear hK K))|simp only [go_sem,eZ]|with_reducible refine wA ?_|clear hK K)
 refine cV (ι:=Nat) 27 (fun k=>[(10, .undef),(26, .v (.int .i64 k))]) (fun k=>[some ⟨23,1,false,[[.aC 13 (ws.map aH) ws.length]]⟩,some ⟨40,8,false,[[.v (.string f), .v (.string t), .v (.bool h), .v (.string l), .v (.string n), .v (.int .i64 xk), .v (.string xs), .aC 3 (xl.map bg) xl.length]]⟩,some ⟨45,11,false,[[.v (.string ⟨#[]⟩), .v (.string ⟨#[]⟩), .v (.bool false), .v (.string ⟨#[]⟩), .v (.string ⟨#[]⟩), .v (.int .i64 0), .v (.string ⟨#[]⟩), .v (.slice none 0 0), .v (.slice none 0 0), .v (.slice none 0 0), .v (.slice none 0 0)]]⟩,some ⟨45,11,false,[[.v (.string f), .v (.string t), .v (.bool h), .v (.string l), .v (.string n), .v (.int .i64 xk), .v (.string xs), .aC 3 (xl.map bg) xl.length, .vec 5 ((kl.take k).filter (hasB ([]:List ByteArray))).length, .v (.slice none 0 0), .v (.slice none 0 0)]]⟩,some ⟨9,1,true,[[.v (.string f)],[.v (.string t)]]⟩,some ⟨9,1,true,((kl.take k).filter (hasB ([]:List ByteArray))).map encS⟩,some ⟨9,1,true,kl.map encS⟩]) (fun k=>kl.length - k) (fun k=>k<=kl.length) 0 (Rh _) ?_ ?_
 ·simp only [TE,T8,Q9,TT]
  (refine ak ?_ ?_ ?_<;>simp only [aR,SI,SL,Ti,Tj,aX,aW,AV.v.injEq,Value.int.injEq,Value.bool.injEq,Value.string.injEq,AV.vec.injEq,AV.ptr.injEq,true_or,or_true,false_or,or_false,aa.mk.injEq,forall_eq_apply_imp_iff,forall_eq,forall_eq',go_sem])
  all_goals first|rfl|trace_state
 ·intro k hk K hK;have eW:=aD (k:=k) (by omega)
  by_cases hlt:k<kl.length
  ·have e1:decide ((k:Int)<(kl.length:Int))=true:=decide_eq_true (by omega);have eG:=getD_map encS kl k [] hlt;have eS:=cG (hasB ([]:List ByteArray)) kl hlt;have C:=hc0 kl[k];have hlc:((kl.take k).filter (hasB ([]:List ByteArray))).length<=2:=Q6 (T9 _ _) (by rw [RB];omega);simp only [encS] at eG;simp only [aK,TT,Q9] at C;have C:=C.ofNil;generalize (kl.take k).filter (hasB ([]:List ByteArray))=cur at *
   have eLc:(cur.map encS).length=cur.length:=by simp
   repeat (first|(with_reducible first|refine af.up ?_|refine fun (K:AK) hK=> ?_|(refine hK _ ?_;clear hK K))|simp only [go_sem,e1,eG]|with_reducible refine wA ?_|clear hK K)
   refine ab.one C ?_
   cases hb:hasB ([]:List ByteArray) kl[k]
   ·rw [hb] at eS;simp only [SV,if_false] at eS
    repeat (first|(with_reducible first|refine af.up ?_|refine fun (K:AK) hK=> ?_|(refine hK _ ?_;clear hK K))|simp only [go_sem,hb]|with_reducible refine wA ?_|clear hK K)
    repeat (first|(with_reducible first|refine af.up ?_|refine fun (K:AK) hK=> ?_|(refine hK _ ?_;clear hK K))|simp only [go_sem,eW]|with_reducible refine wA ?_|clear hK K)
    refine aM.mk (k+1) hlt (by omega) ?_;simp only [eS]
    (refine ak ?_ ?_ ?_<;>simp only [aR,SI,SL,Ti,Tj,aX,aW,AV.v.injEq,Value.int.injEq,Value.bool.injEq,Value.string.injEq,AV.vec.injEq,AV.ptr.injEq,true_or,or_true,false_or,or_false,aa.mk.injEq,forall_eq_apply_imp_iff,forall_eq,forall_eq',go_sem])
    all_goals first|rfl|trace_state
   ·rw [hb] at eS;simp only [if_true] at eS
    have eA:cur.map encS++[[AV.v (.string kl[k])]]=((kl.take (k+1)).filter (hasB ([]:List ByteArray))).map encS:=by rw [eS,List.map_append];rfl
    have eB:cur.length+1=((kl.take (k+1)).filter (hasB ([]:List ByteArray))).length:=by rw [eS];simp
    repeat (first|(with_reducible first|refine af.up ?_|refine fun (K:AK) hK=> ?_|(refine hK _ ?_;clear hK K))|simp only [go_sem,hb]|with_reducible refine wA ?_|clear hK K)
    repeat (first|(with_reducible first|refine af.up ?_|refine fun (K:AK) hK=> ?_|(refine hK _ ?_;clear hK K))|simp only [go_sem,eW]|with_reducible refine wA ?_|clear hK K)
    refine aM.mk (k+1) hlt (by omega) ?_;simp only [eA,eB]
    (refine ak ?_ ?_ ?_<;>simp only [aR,SI,SL,Ti,Tj,aX,aW,AV.v.injEq,Value.int.injEq,Value.bool.injEq,Value.string.injEq,AV.vec.injEq,AV.ptr.injEq,true_or,or_true,false_or,or_false,aa.mk.injEq,forall_eq_apply_imp_iff,forall_eq,forall_eq',go_sem])
    all_goals first|rfl|trace_state
  ·have hkn:k=kl.length:=by omega
   have e1:decide ((k:Int)<(kl.length:Int))=false:=decide_eq_false (by omega);rw [hkn] at e1;rw [hkn,Tr]
   repeat ((fail_if_success (with_reducible refine bD (i:=9) ?_));first|(with_reducible first|refine af.up ?_|refine fun (K:AK) hK=> ?_|(refine hK _ ?_;clear hK K))|simp only [go_sem,e1]|with_reducible refine wA ?_|clear hK K)
   have ways:((!h)=false∧(!h)=false∧aS ⟨f,t,h,l,n, .mk xk xs xl⟩=[f,t])∨((!h)=true∧(n.toList==(⟨#[]⟩:ByteArray).toList)=true∧aS ⟨f,t,h,l,n, .mk xk xs xl⟩=[f,t])∨((!h)=true∧(n.toList==(⟨#[]⟩:ByteArray).toList)=false∧aS ⟨f,t,h,l,n, .mk xk xs xl⟩=[f,t,n]):=by
    rw [<-kV];unfold aS
    cases h
    ·cases hn:fb n
     ·exact .inr (.inr ⟨rfl,rfl,by simp [hn]⟩)
     ·exact .inr (.inl ⟨rfl,rfl,by simp [hn]⟩)
    ·exact .inl ⟨rfl,rfl,by simp⟩
   have eN:(now.map encS).length=now.length:=by simp
   have eKl:=eK kl;have eKy:=eK (kl.filter (hasB ([]:List ByteArray)));clear eK
   rcases ways with ⟨hh,hn,hL⟩|⟨hh,hn,hL⟩|⟨hh,hn,hL⟩
   ·rw [hL] at UN
    repeat ((fail_if_success (with_reducible refine bD (i:=11) ?_));first|(with_reducible first|refine af.up ?_|refine fun (K:AK) hK=> ?_|(refine hK _ ?_;clear hK K))|simp only [go_sem,hh,hn,Go.undef]|with_reducible refine wA ?_|clear hK K)
    repeat (first|(with_reducible first|refine af.up ?_|refine fun (K:AK) hK=> ?_|(refine hK _ ?_;clear hK K))|simp only [go_sem]|with_reducible refine wA ?_|clear hK K)
    refine ab.fr [] CL (by simp) ?_ ?_ ?_ ?_ ?_
    ·rfl
    ·rfl
    ·rfl
    ·intro j ob hj;simp at hj
    repeat (first|(with_reducible first|refine af.up ?_|refine fun (K:AK) hK=> ?_|(refine hK _ ?_;clear hK K))|simp only [go_sem]|with_reducible refine wA ?_|clear hK K)
    refine ab.fr [4] UN (by simp) ?_ ?_ ?_ ?_ ?_
    ·simp only [TN,TT,Su,Tc,RI,aa.bc,bW,bV,AV.bc,eZ,encS]
    ·rfl
    ·rfl
    ·intro j ob hj
     match j,hj with
     | 0,hj=>cases hj;rfl
     | j+1,hj=>simp at hj
    repeat ((fail_if_success (with_reducible refine bD (i:=12) ?_));first|(with_reducible first|refine af.up ?_|refine fun (K:AK) hK=> ?_|(refine hK _ ?_;clear hK K))|simp only [go_sem,eZ]|with_reducible refine wA ?_|clear hK K)
    refine aJ (db 11 7 rfl rfl rfl eN) (by kernel_rfl) ?_
    repeat (first|(with_reducible first|refine af.up ?_|refine fun (K:AK) hK=> ?_|(refine hK _ ?_;clear hK K))|simp only [go_sem,eN,TY,Q9]|with_reducible refine wA ?_|clear hK K)
    refine ab.one CS ?_
    repeat ((fail_if_success (with_reducible refine bD (i:=13) ?_));first|(with_reducible first|refine af.up ?_|refine fun (K:AK) hK=> ?_|(refine hK _ ?_;clear hK K))|simp only [go_sem]|with_reducible refine wA ?_|clear hK K)
    refine aJ (bY (k:=3) (i:=0) (j:=10) 67 13 (by decide) rfl (T0 _) rfl rfl) (by kernel_rfl) ?_
    repeat (first|(with_reducible first|refine af.up ?_|refine fun (K:AK) hK=> ?_|(refine hK _ ?_;clear hK K))|simp only [go_sem]|with_reducible refine wA ?_|clear hK K)
    refine dG (ι:=Nat) 12 67 13 rfl (by decide) 68 (fun k=>[(12, .vec 9 ((ws.take k).filter (fun c=> !aN c now)).length),(14, .undef),(67, .v (.int .i64 k))]) (fun k=>[some ⟨23,1,false,[[.aC 13 (ws.map aH) ws.length]]⟩,some ⟨40,8,false,[[.v (.string f), .v (.string t), .v (.bool h), .v (.string l), .v (.string n), .v (.int .i64 xk), .v (.string xs), .aC 3 (xl.map bg) xl.length]]⟩,some ⟨45,11,false,[[.v (.string ⟨#[]⟩), .v (.string ⟨#[]⟩), .v (.bool false), .v (.string ⟨#[]⟩), .v (.string ⟨#[]⟩), .v (.int .i64 0), .v (.string ⟨#[]⟩), .v (.slice none 0 0), .v (.slice none 0 0), .v (.slice none 0 0), .v (.slice none 0 0)]]⟩,some ⟨45,11,false,[[.v (.string f), .v (.string t), .v (.bool h), .v (.string l), .v (.string n), .v (.int .i64 xk), .v (.string xs), .aC 3 (xl.map bg) xl.length, .vec 5 (kl.filter (hasB ([]:List ByteArray))).length, .aC 1 (now.map encS) now.length, .vec 8 ((ws.take k).filter (fun c=>aN c now)).length]]⟩,none,some ⟨9,1,true,(kl.filter (hasB ([]:List ByteArray))).map encS⟩,none,none,some ⟨67,13,true,((ws.take k).filter (fun c=>aN c now)).map aH⟩,some ⟨67,13,true,((ws.take k).filter (fun c=> !aN c now)).map aH⟩]) (fun k=>ws.length - k) (fun k=>k<=ws.length) 0 (Rh _) ?_ ?_
    ·simp only [TE,T8,Q9,TT,Ua]
     (refine ak ?_ ?_ ?_<;>simp only [aR,SI,SL,Ti,Tj,aX,aW,AV.v.injEq,Value.int.injEq,Value.bool.injEq,Value.string.injEq,AV.vec.injEq,AV.ptr.injEq,true_or,or_true,false_or,or_false,aa.mk.injEq,forall_eq_apply_imp_iff,forall_eq,forall_eq',go_sem])
     all_goals first|rfl|trace_state
    ·intro j hj K hK;have eWj:=aD (k:=j) (by omega)
     by_cases hltj:j<ws.length
     ·have e2:decide ((j:Int)<(ws.length:Int))=true:=decide_eq_true (by omega);have eG:=getD_map aH ws j [] hltj;have eS1:=cG (fun c=>aN c now) ws hltj;have eS2:=cG (fun c=> !aN c now) ws hltj;have C:=iE ws[j] now;have l1:((ws.take j).filter (fun c=>aN c now)).length<=100000:=Q6 (T9 _ _) (by rw [RB];omega);have l2:((ws.take j).filter (fun c=> !aN c now)).length<=100000:=Q6 (T9 _ _) (by rw [RB];omega);generalize (ws.take j).filter (fun c=>aN c now)=cs1 at *;generalize (ws.take j).filter (fun c=> !aN c now)=cs2 at *
      have eL1:(cs1.map aH).length=cs1.length:=by simp
      have eL2:(cs2.map aH).length=cs2.length:=by simp
      have eC1:cs1.map aH++[aH ws[j]]=(cs1++[ws[j]]).map aH:=by simp
      have eC2:cs2.map aH++[aH ws[j]]=(cs2++[ws[j]]).map aH:=by simp
      have eD1:cs1.length+1=(cs1++[ws[j]]).length:=by simp
      have eD2:cs2.length+1=(cs2++[ws[j]]).length:=by simp
      simp only [aK,aH] at C;simp only [aH] at eG eC1 eC2
      repeat (first|(with_reducible first|refine af.up ?_|refine fun (K:AK) hK=> ?_|(refine hK _ ?_;clear hK K))|simp only [go_sem,e2,eG]|with_reducible refine wA ?_|clear hK K)
      refine ab.one C ?_
      cases hrp:aN ws[j] now
      ·simp only [hrp,Ub,SV,if_false,if_true] at eS1 eS2
       repeat (first|(with_reducible first|refine af.up ?_|refine fun (K:AK) hK=> ?_|(refine hK _ ?_;clear hK K))|simp only [go_sem,hrp]|with_reducible refine wA ?_|clear hK K)
       repeat (first|(with_reducible first|refine af.up ?_|refine fun (K:AK) hK=> ?_|(refine hK _ ?_;clear hK K))|simp only [go_sem,eWj]|with_reducible refine wA ?_|clear hK K)
       refine aM.mk (j+1) hltj (by omega) ?_;simp only [eS1,eS2,eC2,eD2]
       (refine ak ?_ ?_ ?_<;>simp only [aR,SI,SL,Ti,Tj,aX,aW,AV.v.injEq,Value.int.injEq,Value.bool.injEq,Value.string.injEq,AV.vec.injEq,AV.ptr.injEq,true_or,or_true,false_or,or_false,aa.mk.injEq,forall_eq_apply_imp_iff,forall_eq,forall_eq',go_sem])
       all_goals first|rfl|trace_state
      ·simp only [hrp,Uc,SV,if_false,if_true] at eS1 eS2
       repeat (first|(with_reducible first|refine af.up ?_|refine fun (K:AK) hK=> ?_|(refine hK _ ?_;clear hK K))|simp only [go_sem,hrp]|with_reducible refine wA ?_|clear hK K)
       repeat (first|(with_reducible first|refine af.up ?_|refine fun (K:AK) hK=> ?_|(refine hK _ ?_;clear hK K))|simp only [go_sem,eWj]|with_reducible refine wA ?_|clear hK K)
       refine aM.mk (j+1) hltj (by omega) ?_;simp only [eS1,eS2,eC1,eD1]
       (refine ak ?_ ?_ ?_<;>simp only [aR,SI,SL,Ti,Tj,aX,aW,AV.v.injEq,Value.int.injEq,Value.bool.injEq,Value.string.injEq,AV.vec.injEq,AV.ptr.injEq,true_or,or_true,false_or,or_false,aa.mk.injEq,forall_eq_apply_imp_iff,forall_eq,forall_eq',go_sem])
       all_goals first|rfl|trace_state
     ·have hjn:j=ws.length:=by omega
      have e2:decide ((j:Int)<(ws.length:Int))=false:=decide_eq_false (by omega);rw [hjn] at e2;rw [hjn,Tr]
      repeat ((fail_if_success (with_reducible refine bD (i:=21) ?_));first|(with_reducible first|refine af.up ?_|refine fun (K:AK) hK=> ?_|(refine hK _ ?_;clear hK K))|simp only [go_sem,e2]|with_reducible refine wA ?_|clear hK K)
      refine aJ (db 12 9 rfl rfl rfl (R5 _)) (by kernel_rfl) ?_;refine aJ (cA (k:=3) (i:=0) (j:=8) (by decide) rfl (T0 _) rfl rfl rfl rfl (R5 _)) (by kernel_rfl) ?_;refine aJ (cA (k:=3) (i:=0) (j:=10) (by decide) rfl (T0 _) rfl rfl rfl rfl (R5 _)) (by kernel_rfl) ?_
      repeat (first|(with_reducible first|refine af.up ?_|refine fun (K:AK) hK=> ?_|(refine hK _ ?_;clear hK K))|simp only [go_sem]|with_reducible refine wA ?_|clear hK K)
      (refine ⟨?_, ?_, ?_⟩<;>simp only [aX,aW,AV.v.injEq,Value.int.injEq,Value.bool.injEq,Value.string.injEq,AV.vec.injEq,AV.ptr.injEq,true_or,or_true,false_or,or_false,aa.mk.injEq,forall_eq_apply_imp_iff,forall_eq,forall_eq',go_sem])
      all_goals first|rfl|trace_state
   ·rw [hL] at UN
    repeat ((fail_if_success (with_reducible refine bD (i:=11) ?_));first|(with_reducible first|refine af.up ?_|refine fun (K:AK) hK=> ?_|(refine hK _ ?_;clear hK K))|simp only [go_sem,hh,hn,Go.undef]|with_reducible refine wA ?_|clear hK K)
    repeat (first|(with_reducible first|refine af.up ?_|refine fun (K:AK) hK=> ?_|(refine hK _ ?_;clear hK K))|simp only [go_sem]|with_reducible refine wA ?_|clear hK K)
    refine ab.fr [] CL (by simp) ?_ ?_ ?_ ?_ ?_
    ·rfl
    ·rfl
    ·rfl
    ·intro j ob hj;simp at hj
    repeat (first|(with_reducible first|refine af.up ?_|refine fun (K:AK) hK=> ?_|(refine hK _ ?_;clear hK K))|simp only [go_sem]|with_reducible refine wA ?_|clear hK K)
    refine ab.fr [4] UN (by simp) ?_ ?_ ?_ ?_ ?_
    ·simp only [TN,TT,Su,Tc,RI,aa.bc,bW,bV,AV.bc,eZ,encS]
    ·rfl
    ·rfl
    ·intro j ob hj
     match j,hj with
     | 0,hj=>cases hj;rfl
     | j+1,hj=>simp at hj
    repeat ((fail_if_success (with_reducible refine bD (i:=12) ?_));first|(with_reducible first|refine af.up ?_|refine fun (K:AK) hK=> ?_|(refine hK _ ?_;clear hK K))|simp only [go_sem,eZ]|with_reducible refine wA ?_|clear hK K)
    refine aJ (db 11 7 rfl rfl rfl eN) (by kernel_rfl) ?_
    repeat (first|(with_reducible first|refine af.up ?_|refine fun (K:AK) hK=> ?_|(refine hK _ ?_;clear hK K))|simp only [go_sem,eN,TY,Q9]|with_reducible refine wA ?_|clear hK K)
    refine ab.one CS ?_
    repeat ((fail_if_success (with_reducible refine bD (i:=13) ?_));first|(with_reducible first|refine af.up ?_|refine fun (K:AK) hK=> ?_|(refine hK _ ?_;clear hK K))|simp only [go_sem]|with_reducible refine wA ?_|clear hK K)
    refine aJ (bY (k:=3) (i:=0) (j:=10) 67 13 (by decide) rfl (T0 _) rfl rfl) (by kernel_rfl) ?_
    repeat (first|(with_reducible first|refine af.up ?_|refine fun (K:AK) hK=> ?_|(refine hK _ ?_;clear hK K))|simp only [go_sem]|with_reducible refine wA ?_|clear hK K)
    refine dG (ι:=Nat) 12 67 13 rfl (by decide) 68 (fun k=>[(12, .vec 9 ((ws.take k).filter (fun c=> !aN c now)).length),(14, .undef),(67, .v (.int .i64 k))]) (fun k=>[some ⟨23,1,false,[[.aC 13 (ws.map aH) ws.length]]⟩,some ⟨40,8,false,[[.v (.string f), .v (.string t), .v (.bool h), .v (.string l), .v (.string n), .v (.int .i64 xk), .v (.string xs), .aC 3 (xl.map bg) xl.length]]⟩,some ⟨45,11,false,[[.v (.string ⟨#[]⟩), .v (.string ⟨#[]⟩), .v (.bool false), .v (.string ⟨#[]⟩), .v (.string ⟨#[]⟩), .v (.int .i64 0), .v (.string ⟨#[]⟩), .v (.slice none 0 0), .v (.slice none 0 0), .v (.slice none 0 0), .v (.slice none 0 0)]]⟩,some ⟨45,11,false,[[.v (.string f), .v (.string t), .v (.bool h), .v (.string l), .v (.string n), .v (.int .i64 xk), .v (.string xs), .aC 3 (xl.map bg) xl.length, .vec 5 (kl.filter (hasB ([]:List ByteArray))).length, .aC 1 (now.map encS) now.length, .vec 8 ((ws.take k).filter (fun c=>aN c now)).length]]⟩,none,some ⟨9,1,true,(kl.filter (hasB ([]:List ByteArray))).map encS⟩,none,none,some ⟨67,13,true,((ws.take k).filter (fun c=>aN c now)).map aH⟩,some ⟨67,13,true,((ws.take k).filter (fun c=> !aN c now)).map aH⟩]) (fun k=>ws.length - k) (fun k=>k<=ws.length) 0 (Rh _) ?_ ?_
    ·simp only [TE,T8,Q9,TT,Ua]
     (refine ak ?_ ?_ ?_<;>simp only [aR,SI,SL,Ti,Tj,aX,aW,AV.v.injEq,Value.int.injEq,Value.bool.injEq,Value.string.injEq,AV.vec.injEq,AV.ptr.injEq,true_or,or_true,false_or,or_false,aa.mk.injEq,forall_eq_apply_imp_iff,forall_eq,forall_eq',go_sem])
     all_goals first|rfl|trace_state
    ·intro j hj K hK;have eWj:=aD (k:=j) (by omega)
     by_cases hltj:j<ws.length
     ·have e2:decide ((j:Int)<(ws.length:Int))=true:=decide_eq_true (by omega);have eG:=getD_map aH ws j [] hltj;have eS1:=cG (fun c=>aN c now) ws hltj;have eS2:=cG (fun c=> !aN c now) ws hltj;have C:=iE ws[j] now;have l1:((ws.take j).filter (fun c=>aN c now)).length<=100000:=Q6 (T9 _ _) (by rw [RB];omega);have l2:((ws.take j).filter (fun c=> !aN c now)).length<=100000:=Q6 (T9 _ _) (by rw [RB];omega);generalize (ws.take j).filter (fun c=>aN c now)=cs1 at *;generalize (ws.take j).filter (fun c=> !aN c now)=cs2 at *
      have eL1:(cs1.map aH).length=cs1.length:=by simp
      have eL2:(cs2.map aH).length=cs2.length:=by simp
      have eC1:cs1.map aH++[aH ws[j]]=(cs1++[ws[j]]).map aH:=by simp
      have eC2:cs2.map aH++[aH ws[j]]=(cs2++[ws[j]]).map aH:=by simp
      have eD1:cs1.length+1=(cs1++[ws[j]]).length:=by simp
      have eD2:cs2.length+1=(cs2++[ws[j]]).length:=by simp
      simp only [aK,aH] at C;simp only [aH] at eG eC1 eC2
      repeat (first|(with_reducible first|refine af.up ?_|refine fun (K:AK) hK=> ?_|(refine hK _ ?_;clear hK K))|simp only [go_sem,e2,eG]|with_reducible refine wA ?_|clear hK K)
      refine ab.one C ?_
      cases hrp:aN ws[j] now
      ·simp only [hrp,Ub,SV,if_false,if_true] at eS1 eS2
       repeat (first|(with_reducible first|refine af.up ?_|refine fun (K:AK) hK=> ?_|(refine hK _ ?_;clear hK K))|simp only [go_sem,hrp]|with_reducible refine wA ?_|clear hK K)
       repeat (first|(with_reducible first|refine af.up ?_|refine fun (K:AK) hK=> ?_|(refine hK _ ?_;clear hK K))|simp only [go_sem,eWj]|with_reducible refine wA ?_|clear hK K)
       refine aM.mk (j+1) hltj (by omega) ?_;simp only [eS1,eS2,eC2,eD2]
       (refine ak ?_ ?_ ?_<;>simp only [aR,SI,SL,Ti,Tj,aX,aW,AV.v.injEq,Value.int.injEq,Value.bool.injEq,Value.string.injEq,AV.vec.injEq,AV.ptr.injEq,true_or,or_true,false_or,or_false,aa.mk.injEq,forall_eq_apply_imp_iff,forall_eq,forall_eq',go_sem])
       all_goals first|rfl|trace_state
      ·simp only [hrp,Uc,SV,if_false,if_true] at eS1 eS2
       repeat (first|(with_reducible first|refine af.up ?_|refine fun (K:AK) hK=> ?_|(refine hK _ ?_;clear hK K))|simp only [go_sem,hrp]|with_reducible refine wA ?_|clear hK K)
       repeat (first|(with_reducible first|refine af.up ?_|refine fun (K:AK) hK=> ?_|(refine hK _ ?_;clear hK K))|simp only [go_sem,eWj]|with_reducible refine wA ?_|clear hK K)
       refine aM.mk (j+1) hltj (by omega) ?_;simp only [eS1,eS2,eC1,eD1]
       (refine ak ?_ ?_ ?_<;>simp only [aR,SI,SL,Ti,Tj,aX,aW,AV.v.injEq,Value.int.injEq,Value.bool.injEq,Value.string.injEq,AV.vec.injEq,AV.ptr.injEq,true_or,or_true,false_or,or_false,aa.mk.injEq,forall_eq_apply_imp_iff,forall_eq,forall_eq',go_sem])
       all_goals first|rfl|trace_state
     ·have hjn:j=ws.length:=by omega
      have e2:decide ((j:Int)<(ws.length:Int))=false:=decide_eq_false (by omega);rw [hjn] at e2;rw [hjn,Tr]
      repeat ((fail_if_success (with_reducible refine bD (i:=21) ?_));first|(with_reducible first|refine af.up ?_|refine fun (K:AK) hK=> ?_|(refine hK _ ?_;clear hK K))|simp only [go_sem,e2]|with_reducible refine wA ?_|clear hK K)
      refine aJ (db 12 9 rfl rfl rfl (R5 _)) (by kernel_rfl) ?_;refine aJ (cA (k:=3) (i:=0) (j:=8) (by decide) rfl (T0 _) rfl rfl rfl rfl (R5 _)) (by kernel_rfl) ?_;refine aJ (cA (k:=3) (i:=0) (j:=10) (by decide) rfl (T0 _) rfl rfl rfl rfl (R5 _)) (by kernel_rfl) ?_
      repeat (first|(with_reducible first|refine af.up ?_|refine fun (K:AK) hK=> ?_|(refine hK _ ?_;clear hK K))|simp only [go_sem]|with_reducible refine wA ?_|clear hK K)
      (refine ⟨?_, ?_, ?_⟩<;>simp only [aX,aW,AV.v.injEq,Value.int.injEq,Value.bool.injEq,Value.string.injEq,AV.vec.injEq,AV.ptr.injEq,true_or,or_true,false_or,or_false,aa.mk.injEq,forall_eq_apply_imp_iff,forall_eq,forall_eq',go_sem])
      all_goals first|rfl|trace_state
   ·rw [hL] at UN
    repeat ((fail_if_success (with_reducible refine bD (i:=10) ?_));first|(with_reducible first|refine af.up ?_|refine fun (K:AK) hK=> ?_|(refine hK _ ?_;clear hK K))|simp only [go_sem,hh,hn,Go.undef]|with_reducible refine wA ?_|clear hK K)
    refine pw (AS.mk (aR 90 [(1, .v (.slice none 0 0)),(2, .ptr 0 0 1 0 0),(3, .ptr 1 0 8 0 0),(6, .ptr 2 0 11 0 0),(7, .ptr 3 0 11 0 0),(8, .vec 4 3)]) [some ⟨23,1,false,[[.aC 13 (ws.map aH) ws.length]]⟩,some ⟨40,8,false,[[.v (.string f), .v (.string t), .v (.bool h), .v (.string l), .v (.string n), .v (.int .i64 xk), .v (.string xs), .aC 3 (xl.map bg) xl.length]]⟩,some ⟨45,11,false,[[.v (.string ⟨#[]⟩), .v (.string ⟨#[]⟩), .v (.bool false), .v (.string ⟨#[]⟩), .v (.string ⟨#[]⟩), .v (.int .i64 0), .v (.string ⟨#[]⟩), .v (.slice none 0 0), .v (.slice none 0 0), .v (.slice none 0 0), .v (.slice none 0 0)]]⟩,some ⟨45,11,false,[[.v (.string f), .v (.string t), .v (.bool h), .v (.string l), .v (.string n), .v (.int .i64 xk), .v (.string xs), .aC 3 (xl.map bg) xl.length, .vec 5 (kl.filter (hasB ([]:List ByteArray))).length, .v (.slice none 0 0), .v (.slice none 0 0)]]⟩,some ⟨9,1,true,[[.v (.string f)],[.v (.string t)],[.v (.string n)]]⟩,some ⟨9,1,true,(kl.filter (hasB ([]:List ByteArray))).map encS⟩,some ⟨9,1,true,kl.map encS⟩] .no) (by kernel_rfl) ?_ ?_
    ·repeat (first|(with_reducible first|refine af.up ?_|refine fun (K:AK) hK=> ?_|(refine hK _ ?_;clear hK K))|simp only [go_sem]|with_reducible refine wA ?_|clear hK K)
     (refine ak ?_ ?_ ?_<;>simp only [aR,SI,SL,Ti,Tj,aX,aW,AV.v.injEq,Value.int.injEq,Value.bool.injEq,Value.string.injEq,AV.vec.injEq,AV.ptr.injEq,true_or,or_true,false_or,or_false,aa.mk.injEq,forall_eq_apply_imp_iff,forall_eq,forall_eq',go_sem])
     all_goals first|rfl|trace_state
    simp only [aR,SI,SL,Ti,Tj,go_sem]
    repeat ((fail_if_success (with_reducible refine bD (i:=11) ?_));first|(with_reducible first|refine af.up ?_|refine fun (K:AK) hK=> ?_|(refine hK _ ?_;clear hK K))|simp only [go_sem]|with_reducible refine wA ?_|clear hK K)
    repeat (first|(with_reducible first|refine af.up ?_|refine fun (K:AK) hK=> ?_|(refine hK _ ?_;clear hK K))|simp only [go_sem]|with_reducible refine wA ?_|clear hK K)
    refine ab.fr [] CL (by simp) ?_ ?_ ?_ ?_ ?_
    ·rfl
    ·rfl
    ·rfl
    ·intro j ob hj;simp at hj
    repeat (first|(with_reducible first|refine af.up ?_|refine fun (K:AK) hK=> ?_|(refine hK _ ?_;clear hK K))|simp only [go_sem]|with_reducible refine wA ?_|clear hK K)
    refine ab.fr [4] UN (by simp) ?_ ?_ ?_ ?_ ?_
    ·simp only [TN,TT,Su,Tc,RI,aa.bc,bW,bV,AV.bc,eZ,encS]
    ·rfl
    ·rfl
    ·intro j ob hj
     match j,hj with
     | 0,hj=>cases hj;rfl
     | j+1,hj=>simp at hj
    repeat ((fail_if_success (with_reducible refine bD (i:=12) ?_));first|(with_reducible first|refine af.up ?_|refine fun (K:AK) hK=> ?_|(refine hK _ ?_;clear hK K))|simp only [go_sem,eZ]|with_reducible refine wA ?_|clear hK K)
    refine aJ (db 11 7 rfl rfl rfl eN) (by kernel_rfl) ?_
    repeat (first|(with_reducible first|refine af.up ?_|refine fun (K:AK) hK=> ?_|(refine hK _ ?_;clear hK K))|simp only [go_sem,eN,TY,Q9]|with_reducible refine wA ?_|clear hK K)
    refine ab.one CS ?_
    repeat ((fail_if_success (with_reducible refine bD (i:=13) ?_));first|(with_reducible first|refine af.up ?_|refine fun (K:AK) hK=> ?_|(refine hK _ ?_;clear hK K))|simp only [go_sem]|with_reducible refine wA ?_|clear hK K)
    refine aJ (bY (k:=3) (i:=0) (j:=10) 67 13 (by decide) rfl (T0 _) rfl rfl) (by kernel_rfl) ?_
    repeat (first|(with_reducible first|refine af.up ?_|refine fun (K:AK) hK=> ?_|(refine hK _ ?_;clear hK K))|simp only [go_sem]|with_reducible refine wA ?_|clear hK K)
    refine dG (ι:=Nat) 12 67 13 rfl (by decide) 68 (fun k=>[(12, .vec 9 ((ws.take k).filter (fun c=> !aN c now)).length),(14, .undef),(67, .v (.int .i64 k))]) (fun k=>[some ⟨23,1,false,[[.aC 13 (ws.map aH) ws.length]]⟩,some ⟨40,8,false,[[.v (.string f), .v (.string t), .v (.bool h), .v (.string l), .v (.string n), .v (.int .i64 xk), .v (.string xs), .aC 3 (xl.map bg) xl.length]]⟩,some ⟨45,11,false,[[.v (.string ⟨#[]⟩), .v (.string ⟨#[]⟩), .v (.bool false), .v (.string ⟨#[]⟩), .v (.string ⟨#[]⟩), .v (.int .i64 0), .v (.string ⟨#[]⟩), .v (.slice none 0 0), .v (.slice none 0 0), .v (.slice none 0 0), .v (.slice none 0 0)]]⟩,some ⟨45,11,false,[[.v (.string f), .v (.string t), .v (.bool h), .v (.string l), .v (.string n), .v (.int .i64 xk), .v (.string xs), .aC 3 (xl.map bg) xl.length, .vec 5 (kl.filter (hasB ([]:List ByteArray))).length, .aC 1 (now.map encS) now.length, .vec 8 ((ws.take k).filter (fun c=>aN c now)).length]]⟩,none,some ⟨9,1,true,(kl.filter (hasB ([]:List ByteArray))).map encS⟩,none,none,some ⟨67,13,true,((ws.take k).filter (fun c=>aN c now)).map aH⟩,some ⟨67,13,true,((ws.take k).filter (fun c=> !aN c now)).map aH⟩]) (fun k=>ws.length - k) (fun k=>k<=ws.length) 0 (Rh _) ?_ ?_
    ·simp only [TE,T8,Q9,TT,Ua]
     (refine ak ?_ ?_ ?_<;>simp only [aR,SI,SL,Ti,Tj,aX,aW,AV.v.injEq,Value.int.injEq,Value.bool.injEq,Value.string.injEq,AV.vec.injEq,AV.ptr.injEq,true_or,or_true,false_or,or_false,aa.mk.injEq,forall_eq_apply_imp_iff,forall_eq,forall_eq',go_sem])
     all_goals first|rfl|trace_state
    ·intro j hj K hK;have eWj:=aD (k:=j) (by omega)
     by_cases hltj:j<ws.length
     ·have e2:decide ((j:Int)<(ws.length:Int))=true:=decide_eq_true (by omega);have eG:=getD_map aH ws j [] hltj;have eS1:=cG (fun c=>aN c now) ws hltj;have eS2:=cG (fun c=> !aN c now) ws hltj;have C:=iE ws[j] now;have l1:((ws.take j).filter (fun c=>aN c now)).length<=100000:=Q6 (T9 _ _) (by rw [RB];omega);have l2:((ws.take j).filter (fun c=> !aN c now)).length<=100000:=Q6 (T9 _ _) (by rw [RB];omega);generalize (ws.take j).filter (fun c=>aN c now)=cs1 at *;generalize (ws.take j).filter (fun c=> !aN c now)=cs2 at *
      have eL1:(cs1.map aH).length=cs1.length:=by simp
      have eL2:(cs2.map aH).length=cs2.length:=by simp
      have eC1:cs1.map aH++[aH ws[j]]=(cs1++[ws[j]]).map aH:=by simp
      have eC2:cs2.map aH++[aH ws[j]]=(cs2++[ws[j]]).map aH:=by simp
      have eD1:cs1.length+1=(cs1++[ws[j]]).length:=by simp
      have eD2:cs2.length+1=(cs2++[ws[j]]).length:=by simp
      simp only [aK,aH] at C;simp only [aH] at eG eC1 eC2
      repeat (first|(with_reducible first|refine af.up ?_|refine fun (K:AK) hK=> ?_|(refine hK _ ?_;clear hK K))|simp only [go_sem,e2,eG]|with_reducible refine wA ?_|clear hK K)
      refine ab.one C ?_
      cases hrp:aN ws[j] now
      ·simp only [hrp,Ub,SV,if_false,if_true] at eS1 eS2
       repeat (first|(with_reducible first|refine af.up ?_|refine fun (K:AK) hK=> ?_|(refine hK _ ?_;clear hK K))|simp only [go_sem,hrp]|with_reducible refine wA ?_|clear hK K)
       repeat (first|(with_reducible first|refine af.up ?_|refine fun (K:AK) hK=> ?_|(refine hK _ ?_;clear hK K))|simp only [go_sem,eWj]|with_reducible refine wA ?_|clear hK K)
       refine aM.mk (j+1) hltj (by omega) ?_;simp only [eS1,eS2,eC2,eD2]
       (refine ak ?_ ?_ ?_<;>simp only [aR,SI,SL,Ti,Tj,aX,aW,AV.v.injEq,Value.int.injEq,Value.bool.injEq,Value.string.injEq,AV.vec.injEq,AV.ptr.injEq,true_or,or_true,false_or,or_false,aa.mk.injEq,forall_eq_apply_imp_iff,forall_eq,forall_eq',go_sem])
       all_goals first|rfl|trace_state
      ·simp only [hrp,Uc,SV,if_false,if_true] at eS1 eS2
       repeat (first|(with_reducible first|refine af.up ?_|refine fun (K:AK) hK=> ?_|(refine hK _ ?_;clear hK K))|simp only [go_sem,hrp]|with_reducible refine wA ?_|clear hK K)
       repeat (first|(with_reducible first|refine af.up ?_|refine fun (K:AK) hK=> ?_|(refine hK _ ?_;clear hK K))|simp only [go_sem,eWj]|with_reducible refine wA ?_|clear hK K)
       refine aM.mk (j+1) hltj (by omega) ?_;simp only [eS1,eS2,eC1,eD1]
       (refine ak ?_ ?_ ?_<;>simp only [aR,SI,SL,Ti,Tj,aX,aW,AV.v.injEq,Value.int.injEq,Value.bool.injEq,Value.string.injEq,AV.vec.injEq,AV.ptr.injEq,true_or,or_true,false_or,or_false,aa.mk.injEq,forall_eq_apply_imp_iff,forall_eq,forall_eq',go_sem])
       all_goals first|rfl|trace_state
     ·have hjn:j=ws.length:=by omega
      have e2:decide ((j:Int)<(ws.length:Int))=false:=decide_eq_false (by omega);rw [hjn] at e2;rw [hjn,Tr]
      repeat ((fail_if_success (with_reducible refine bD (i:=21) ?_));first|(with_reducible first|refine af.up ?_|refine fun (K:AK) hK=> ?_|(refine hK _ ?_;clear hK K))|simp only [go_sem,e2]|with_reducible refine wA ?_|clear hK K)
      refine aJ (db 12 9 rfl rfl rfl (R5 _)) (by kernel_rfl) ?_;refine aJ (cA (k:=3) (i:=0) (j:=8) (by decide) rfl (T0 _) rfl rfl rfl rfl (R5 _)) (by kernel_rfl) ?_;refine aJ (cA (k:=3) (i:=0) (j:=10) (by decide) rfl (T0 _) rfl rfl rfl rfl (R5 _)) (by kernel_rfl) ?_
      repeat (first|(with_reducible first|refine af.up ?_|refine fun (K:AK) hK=> ?_|(refine hK _ ?_;clear hK K))|simp only [go_sem]|with_reducible refine wA ?_|clear hK K)
      (refine ⟨?_, ?_, ?_⟩<;>simp only [aX,aW,AV.v.injEq,Value.int.injEq,Value.bool.injEq,Value.string.injEq,AV.vec.injEq,AV.ptr.injEq,true_or,or_true,false_or,or_false,aa.mk.injEq,forall_eq_apply_imp_iff,forall_eq,forall_eq',go_sem])
      all_goals first|rfl|trace_state
end Go.Proofs.YtjcobjgjjlahdaaGreatDoor
