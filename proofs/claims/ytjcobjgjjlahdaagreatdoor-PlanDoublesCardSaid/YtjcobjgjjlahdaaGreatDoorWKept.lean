/- texts of one claim, one behind the other. -/
import Derived.Test.YtjcobjgjjlahdaaGreatDoorWPlanD
import Derived.Test.YtjcobjgjjlahdaaGreatDoorWDfaC
import Derived.Test.YtjcobjgjjlahdaaGreatDoorWDfaA
import Derived.Test.YtjcobjgjjlahdaaGreatDoorWDfaH
import Derived.Test.YtjcobjgjjlahdaaGreatDoorProg
import Derived.Test.YtjcobjgjjlahdaaGreatDoorWFen
import Derived.Test.YtjcobjgjjlahdaaGreatDoorWChk3
import Derived.Test.YtjcobjgjjlahdaaGreatDoorWOrdB
import Derived.Shelf.SlMaps.Equal
import Derived.Test.YtjcobjgjjlahdaaGreatDoorWEvery
import Derived.Test.YtjcobjgjjlahdaaGreatDoorWAbsV
set_option linter.unusedSimpArgs false
set_option linter.unusedVariables false
set_option maxRecDepth 100000
set_option maxHeartbeats 16000000
open Bool renaming false_eq_true -> Sr, not_false -> TA, not_true -> TB, and_self -> SE, and_true -> R0, true_and -> R3, not_eq_eq_eq_not -> SI
open List renaming length_cons -> QI, length_nil -> QC, replicate_succ -> SG, replicate_zero -> SH, map_cons -> Tc, map_nil -> Ti, getElem?_cons_zero -> RU, getElem?_cons_succ -> SC, take_zero -> S0, filter_nil -> Tx, foldl_cons -> R8, foldl_nil -> Sb, length_filter_le -> Ty, length_take -> Q4, take_length -> SM, drop_zero -> Tn, map_drop -> Tz, length_map -> Rv, cons_append -> SB, nil_append -> SA, take_of_length_le -> SX, append_nil -> Tr, mem_cons -> Sj, mem_cons_of_mem -> RC, not_mem_nil -> Sk
open Nat renaming zero_lt_succ -> Tp, zero_le -> QJ, le_trans -> Qz, le_refl -> Qy, lt_add_one -> SY, zero_lt_one -> SZ
open Option renaming map_some -> Rb
open Int renaming ofNat_lt -> SK
namespace Go.Proofs.YtjcobjgjjlahdaaGreatDoor
open Go.RowKit
theorem ah.ofNil {P:Program} {f:FuncId} {z:Nat} {rest:List AV} {r:AV} (h:ah P f (.aE z [] 0 :: rest) r):ah P f (.v (.slice none 0 0) :: rest) r:=by
 refine ⟨⟨?_,h.1.2⟩,h.2.1,fun D nu w vargs hro hra=>h.2.2 D nu w vargs hro ?_⟩
 ·have:=h.1.1
  simp only [bw,AV.wf,dz,Bool.true_and] at this ⊢;exact this
 ·refine ⟨hra.len,fun i c x h1 h2=> ?_⟩
  match i,h1 with
  | 0,h1=>
   cases h1
   have:=hra.at' 0 _ x rfl h2
   rw [this.cf];exact .bm z
  | i+1,h1=>exact hra.at' (i+1) c x h1 h2
theorem yq:bG Tryz.prog 75 [.v (.slice none 0 0)] [] (.v (.slice none 0 0)) []:=by
 (refine bG.enter Tryz.func75 rfl (by kernel_rfl) (by kernel_rfl) rfl ?_;simp only [Tryz.ntmps75,Tryz.results75,QI,QC,Nat.reduceAdd,Nat.reduceSub,SG,SH,List.cons_append,List.nil_append])
 repeat (first|(with_reducible first|refine af.up ?_|refine fun (K:AK) hK=> ?_|(refine hK _ ?_;clear hK K))|simp only [go_sem]|with_reducible refine wA ?_|clear hK K)
 (refine ⟨?_, ?_, ?_⟩<;>simp only [bj,bg,AV.v.injEq,Value.int.injEq,Value.bool.injEq,Value.string.injEq,AV.vec.injEq,AV.ptr.injEq,true_or,or_true,false_or,or_false,aa.mk.injEq,forall_eq_apply_imp_iff,forall_eq,forall_eq',go_sem])
theorem Ig (p:bV) (ws:List dK) (hx:p.expr.lens 1000000) (hw:ws.length<=100000) :
  bG Tryz.prog 39 [.agg (bH p), .v (.slice none 0 0), .ptr 0 0 1 0 0] [some ⟨23,1,false,[[.aE 13 (ws.map aK) ws.length]]⟩]
   (.agg (bH p++[aS (keysOf p ([]:List ByteArray)),aS (bS p ([]:List ByteArray)), .aE 13 ((ws.filter (fun c=>aR c (bS p ([]:List ByteArray)))).map aK) (ws.filter (fun c=>aR c (bS p ([]:List ByteArray)))).length]))
   [some ⟨23,1,false,[[.aE 13 ((leftOf p ([]:List ByteArray) ws).map aK) (leftOf p ([]:List ByteArray) ws).length]]⟩]:=by
 have PC:=sE p hx;have U0:=nG [p.aT,p.to] (by simp);have CL:=yq;have hc0:=dP [];have UN:=nG (aU p) (by have:=fZ p;omega);have hnl:=kH p ([]:List ByteArray);have CS:=IK (bS p ([]:List ByteArray)) (by simp only [QC] at hnl;omega);have eZ: ∀f l,bR f (List.map encS l)=List.map encS l:=fun f l=>bN _ _ (aD _ _)
 have eK: ∀kl:List ByteArray,(kl.map encS).length=kl.length:=fun kl=>by simp
 have hkl:=fe [p.aT,p.to] [];have ek:keysOf p ([]:List ByteArray)=([p.aT,p.to].foldl aq []).filter (hasB ([]:List ByteArray)):=rfl;generalize [p.aT,p.to].foldl aq []=kl at *;rw [ek];simp only [leftOf];rw [<-bS] at UN;generalize bS p ([]:List ByteArray)=now at *;obtain ⟨f,t,h,l,n,⟨xk,xs,xl⟩⟩:=p;simp only [bH,aS,Ex.kind,Ex.label,Ex.kids,QI,QC,Nat.reduceAdd] at *
 (refine bG.enter Tryz.func39 rfl (by kernel_rfl) (by kernel_rfl) rfl ?_;simp only [Tryz.ntmps39,Tryz.results39,QI,QC,Nat.reduceAdd,Nat.reduceSub,SG,SH,List.cons_append,List.nil_append])
 repeat (first|(with_reducible first|refine af.up ?_|refine fun (K:AK) hK=> ?_|(refine hK _ ?_;clear hK K))|simp only [go_sem]|with_reducible refine wA ?_|clear hK K)
 refine ae.one PC ?_
 repeat ((fail_if_success (with_reducible refine br (i:=3) ?_));first|(with_reducible first|refine af.up ?_|refine fun (K:AK) hK=> ?_|(refine hK _ ?_;clear hK K))|simp only [go_sem]|with_reducible refine wA ?_|clear hK K)
 refine aJ (b7 (k:=3) (i:=0) (j:=8) 9 1 (by decide) rfl (Tp _) rfl rfl) (by kernel_rfl) ?_
 repeat (first|(with_reducible first|refine af.up ?_|refine fun (K:AK) hK=> ?_|(refine hK _ ?_;clear hK K))|simp only [go_sem]|with_reducible refine wA ?_|clear hK K)
 refine ae.fr [4] U0 (by simp) ?_ ?_ ?_ ?_ ?_
 ·simp only [Tc,Ti,RU,SC,Rb,aa.bl,bR,bQ,AV.bl,eZ,encS]
 ·rfl
 ·rfl
 ·intro j ob hj
  match j,hj with
  | 0,hj=>cases hj;exact aD _ [_,_]
  | j+1,hj=>simp at hj
 repeat (first|(with_reducible first|refine af.up ?_|refine fun (K:AK) hK=> ?_|(refine hK _ ?_;clear hK K))|simp only [go_sem,eZ]|with_reducible refine wA ?_|clear hK K)
 refine cM (ι:=Nat) 27 (fun k=>[(10, .undef),(26, .v (.int .i64 k))]) (fun k=>[some ⟨23,1,false,[[.aE 13 (ws.map aK) ws.length]]⟩,some ⟨40,8,false,[[.v (.string f), .v (.string t), .v (.bool h), .v (.string l), .v (.string n), .v (.int .i64 xk), .v (.string xs), .aE 3 (xl.map bn) xl.length]]⟩,some ⟨45,11,false,[[.v (.string ⟨#[]⟩), .v (.string ⟨#[]⟩), .v (.bool false), .v (.string ⟨#[]⟩), .v (.string ⟨#[]⟩), .v (.int .i64 0), .v (.string ⟨#[]⟩), .v (.slice none 0 0), .v (.slice none 0 0), .v (.slice none 0 0), .v (.slice none 0 0)]]⟩,some ⟨45,11,false,[[.v (.string f), .v (.string t), .v (.bool h), .v (.string l), .v (.string n), .v (.int .i64 xk), .v (.string xs), .aE 3 (xl.map bn) xl.length, .vec 5 ((kl.take k).filter (hasB ([]:List ByteArray))).length, .v (.slice none 0 0), .v (.slice none 0 0)]]⟩,some ⟨9,1,true,[[.v (.string f)],[.v (.string t)]]⟩,some ⟨9,1,true,((kl.take k).filter (hasB ([]:List ByteArray))).map encS⟩,some ⟨9,1,true,kl.map encS⟩]) (fun k=>kl.length - k) (fun k=>k<=kl.length) 0 (QJ _) ?_ ?_
 ·simp only [S0,Tx,QC,Ti]
  (refine aj ?_ ?_ ?_<;>simp only [aT,R8,Sb,SG,SH,bj,bg,AV.v.injEq,Value.int.injEq,Value.bool.injEq,Value.string.injEq,AV.vec.injEq,AV.ptr.injEq,true_or,or_true,false_or,or_false,aa.mk.injEq,forall_eq_apply_imp_iff,forall_eq,forall_eq',go_sem])
  all_goals first|rfl|trace_state
 ·intro k hk K hK;have eW:=aM (k:=k) (by omega)
  by_cases hlt:k<kl.length
  ·have e1:decide ((k:Int)<(kl.length:Int))=true:=decide_eq_true (by omega);have eG:=getD_map encS kl k [] hlt;have eS:=cB (hasB ([]:List ByteArray)) kl hlt;have C:=hc0 kl[k];have hlc:((kl.take k).filter (hasB ([]:List ByteArray))).length<=2:=Qz (Ty _ _) (by rw [Q4];omega);simp only [encS] at eG;simp only [aS,Ti,QC] at C;have C:=C.ofNil;generalize (kl.take k).filter (hasB ([]:List ByteArray))=cur at *
   have eLc:(cur.map encS).length=cur.length:=by simp
   repeat (first|(with_reducible first|refine af.up ?_|refine fun (K:AK) hK=> ?_|(refine hK _ ?_;clear hK K))|simp only [go_sem,e1,eG]|with_reducible refine wA ?_|clear hK K)
   refine ae.one C ?_
   cases hb:hasB ([]:List ByteArray) kl[k]
   ·rw [hb] at eS;simp only [Sr,if_false] at eS
    repeat (first|(with_reducible first|refine af.up ?_|refine fun (K:AK) hK=> ?_|(refine hK _ ?_;clear hK K))|simp only [go_sem,hb]|with_reducible refine wA ?_|clear hK K)
    repeat (first|(with_reducible first|refine af.up ?_|refine fun (K:AK) hK=> ?_|(refine hK _ ?_;clear hK K))|simp only [go_sem,eW]|with_reducible refine wA ?_|clear hK K)
    refine aQ.mk (k+1) hlt (by omega) ?_;simp only [eS]
    (refine aj ?_ ?_ ?_<;>simp only [aT,R8,Sb,SG,SH,bj,bg,AV.v.injEq,Value.int.injEq,Value.bool.injEq,Value.string.injEq,AV.vec.injEq,AV.ptr.injEq,true_or,or_true,false_or,or_false,aa.mk.injEq,forall_eq_apply_imp_iff,forall_eq,forall_eq',go_sem])
    all_goals first|rfl|trace_state
   ·rw [hb] at eS;simp only [if_true] at eS
    have eA:cur.map encS++[[AV.v (.string kl[k])]]=((kl.take (k+1)).filter (hasB ([]:List ByteArray))).map encS:=by rw [eS,List.map_append];rfl
    have eB:cur.length+1=((kl.take (k+1)).filter (hasB ([]:List ByteArray))).length:=by rw [eS];simp
    repeat (first|(with_reducible first|refine af.up ?_|refine fun (K:AK) hK=> ?_|(refine hK _ ?_;clear hK K))|simp only [go_sem,hb]|with_reducible refine wA ?_|clear hK K)
    repeat (first|(with_reducible first|refine af.up ?_|refine fun (K:AK) hK=> ?_|(refine hK _ ?_;clear hK K))|simp only [go_sem,eW]|with_reducible refine wA ?_|clear hK K)
    refine aQ.mk (k+1) hlt (by omega) ?_;simp only [eA,eB]
    (refine aj ?_ ?_ ?_<;>simp only [aT,R8,Sb,SG,SH,bj,bg,AV.v.injEq,Value.int.injEq,Value.bool.injEq,Value.string.injEq,AV.vec.injEq,AV.ptr.injEq,true_or,or_true,false_or,or_false,aa.mk.injEq,forall_eq_apply_imp_iff,forall_eq,forall_eq',go_sem])
    all_goals first|rfl|trace_state
  ·have hkn:k=kl.length:=by omega
   have e1:decide ((k:Int)<(kl.length:Int))=false:=decide_eq_false (by omega);rw [hkn] at e1;rw [hkn,SM]
   repeat ((fail_if_success (with_reducible refine br (i:=9) ?_));first|(with_reducible first|refine af.up ?_|refine fun (K:AK) hK=> ?_|(refine hK _ ?_;clear hK K))|simp only [go_sem,e1]|with_reducible refine wA ?_|clear hK K)
   have ways:((!h)=false∧(!h)=false∧aU ⟨f,t,h,l,n, .mk xk xs xl⟩=[f,t])∨((!h)=true∧(n.toList==(⟨#[]⟩:ByteArray).toList)=true∧aU ⟨f,t,h,l,n, .mk xk xs xl⟩=[f,t])∨((!h)=true∧(n.toList==(⟨#[]⟩:ByteArray).toList)=false∧aU ⟨f,t,h,l,n, .mk xk xs xl⟩=[f,t,n]):=by
    rw [<-gP];unfold aU
    cases h
    ·cases hn:eU n
     ·exact .inr (.inr ⟨rfl,rfl,by simp [hn]⟩)
     ·exact .inr (.inl ⟨rfl,rfl,by simp [hn]⟩)
    ·exact .inl ⟨rfl,rfl,by simp⟩
   have eN:(now.map encS).length=now.length:=by simp
   have eKl:=eK kl;have eKy:=eK (kl.filter (hasB ([]:List ByteArray)));clear eK
   rcases ways with ⟨hh,hn,hL⟩|⟨hh,hn,hL⟩|⟨hh,hn,hL⟩
   ·rw [hL] at UN
    repeat ((fail_if_success (with_reducible refine br (i:=11) ?_));first|(with_reducible first|refine af.up ?_|refine fun (K:AK) hK=> ?_|(refine hK _ ?_;clear hK K))|simp only [go_sem,hh,hn,Go.undef]|with_reducible refine wA ?_|clear hK K)
    repeat (first|(with_reducible first|refine af.up ?_|refine fun (K:AK) hK=> ?_|(refine hK _ ?_;clear hK K))|simp only [go_sem]|with_reducible refine wA ?_|clear hK K)
    refine ae.fr [] CL (by simp) ?_ ?_ ?_ ?_ ?_
    ·rfl
    ·rfl
    ·rfl
    ·intro j ob hj;simp at hj
    repeat (first|(with_reducible first|refine af.up ?_|refine fun (K:AK) hK=> ?_|(refine hK _ ?_;clear hK K))|simp only [go_sem]|with_reducible refine wA ?_|clear hK K)
    refine ae.fr [4] UN (by simp) ?_ ?_ ?_ ?_ ?_
    ·simp only [Tc,Ti,RU,SC,Rb,aa.bl,bR,bQ,AV.bl,eZ,encS]
    ·rfl
    ·rfl
    ·intro j ob hj
     match j,hj with
     | 0,hj=>cases hj;rfl
     | j+1,hj=>simp at hj
    repeat ((fail_if_success (with_reducible refine br (i:=12) ?_));first|(with_reducible first|refine af.up ?_|refine fun (K:AK) hK=> ?_|(refine hK _ ?_;clear hK K))|simp only [go_sem,eZ]|with_reducible refine wA ?_|clear hK K)
    refine aJ (da 11 7 rfl rfl rfl eN) (by kernel_rfl) ?_
    repeat (first|(with_reducible first|refine af.up ?_|refine fun (K:AK) hK=> ?_|(refine hK _ ?_;clear hK K))|simp only [go_sem,eN,Tn,QC]|with_reducible refine wA ?_|clear hK K)
    refine ae.one CS ?_
    repeat ((fail_if_success (with_reducible refine br (i:=13) ?_));first|(with_reducible first|refine af.up ?_|refine fun (K:AK) hK=> ?_|(refine hK _ ?_;clear hK K))|simp only [go_sem]|with_reducible refine wA ?_|clear hK K)
    refine aJ (b7 (k:=3) (i:=0) (j:=10) 67 13 (by decide) rfl (Tp _) rfl rfl) (by kernel_rfl) ?_
    repeat (first|(with_reducible first|refine af.up ?_|refine fun (K:AK) hK=> ?_|(refine hK _ ?_;clear hK K))|simp only [go_sem]|with_reducible refine wA ?_|clear hK K)
    refine dD (ι:=Nat) 12 67 13 rfl (by decide) 68 (fun k=>[(12, .vec 9 ((ws.take k).filter (fun c=> !aR c now)).length),(14, .undef),(67, .v (.int .i64 k))]) (fun k=>[some ⟨23,1,false,[[.aE 13 (ws.map aK) ws.length]]⟩,some ⟨40,8,false,[[.v (.string f), .v (.string t), .v (.bool h), .v (.string l), .v (.string n), .v (.int .i64 xk), .v (.string xs), .aE 3 (xl.map bn) xl.length]]⟩,some ⟨45,11,false,[[.v (.string ⟨#[]⟩), .v (.string ⟨#[]⟩), .v (.bool false), .v (.string ⟨#[]⟩), .v (.string ⟨#[]⟩), .v (.int .i64 0), .v (.string ⟨#[]⟩), .v (.slice none 0 0), .v (.slice none 0 0), .v (.slice none 0 0), .v (.slice none 0 0)]]⟩,some ⟨45,11,false,[[.v (.string f), .v (.string t), .v (.bool h), .v (.string l), .v (.string n), .v (.int .i64 xk), .v (.string xs), .aE 3 (xl.map bn) xl.length, .vec 5 (kl.filter (hasB ([]:List ByteArray))).length, .aE 1 (now.map encS) now.length, .vec 8 ((ws.take k).filter (fun c=>aR c now)).length]]⟩,none,some ⟨9,1,true,(kl.filter (hasB ([]:List ByteArray))).map encS⟩,none,none,some ⟨67,13,true,((ws.take k).filter (fun c=>aR c now)).map aK⟩,some ⟨67,13,true,((ws.take k).filter (fun c=> !aR c now)).map aK⟩]) (fun k=>ws.length - k) (fun k=>k<=ws.length) 0 (QJ _) ?_ ?_
    ·simp only [S0,Tx,QC,Ti,Tz]
     (refine aj ?_ ?_ ?_<;>simp only [aT,R8,Sb,SG,SH,bj,bg,AV.v.injEq,Value.int.injEq,Value.bool.injEq,Value.string.injEq,AV.vec.injEq,AV.ptr.injEq,true_or,or_true,false_or,or_false,aa.mk.injEq,forall_eq_apply_imp_iff,forall_eq,forall_eq',go_sem])
     all_goals first|rfl|trace_state
    ·intro j hj K hK;have eWj:=aM (k:=j) (by omega)
     by_cases hltj:j<ws.length
     ·have e2:decide ((j:Int)<(ws.length:Int))=true:=decide_eq_true (by omega);have eG:=getD_map aK ws j [] hltj;have eS1:=cB (fun c=>aR c now) ws hltj;have eS2:=cB (fun c=> !aR c now) ws hltj;have C:=kJ ws[j] now;have l1:((ws.take j).filter (fun c=>aR c now)).length<=100000:=Qz (Ty _ _) (by rw [Q4];omega);have l2:((ws.take j).filter (fun c=> !aR c now)).length<=100000:=Qz (Ty _ _) (by rw [Q4];omega);generalize (ws.take j).filter (fun c=>aR c now)=cs1 at *;generalize (ws.take j).filter (fun c=> !aR c now)=cs2 at *
      have eL1:(cs1.map aK).length=cs1.length:=by simp
      have eL2:(cs2.map aK).length=cs2.length:=by simp
      have eC1:cs1.map aK++[aK ws[j]]=(cs1++[ws[j]]).map aK:=by simp
      have eC2:cs2.map aK++[aK ws[j]]=(cs2++[ws[j]]).map aK:=by simp
      have eD1:cs1.length+1=(cs1++[ws[j]]).length:=by simp
      have eD2:cs2.length+1=(cs2++[ws[j]]).length:=by simp
      simp only [aS,aK] at C;simp only [aK] at eG eC1 eC2
      repeat (first|(with_reducible first|refine af.up ?_|refine fun (K:AK) hK=> ?_|(refine hK _ ?_;clear hK K))|simp only [go_sem,e2,eG]|with_reducible refine wA ?_|clear hK K)
      refine ae.one C ?_
      cases hrp:aR ws[j] now
      ·simp only [hrp,TA,Sr,if_false,if_true] at eS1 eS2
       repeat (first|(with_reducible first|refine af.up ?_|refine fun (K:AK) hK=> ?_|(refine hK _ ?_;clear hK K))|simp only [go_sem,hrp]|with_reducible refine wA ?_|clear hK K)
       repeat (first|(with_reducible first|refine af.up ?_|refine fun (K:AK) hK=> ?_|(refine hK _ ?_;clear hK K))|simp only [go_sem,eWj]|with_reducible refine wA ?_|clear hK K)
       refine aQ.mk (j+1) hltj (by omega) ?_;simp only [eS1,eS2,eC2,eD2]
       (refine aj ?_ ?_ ?_<;>simp only [aT,R8,Sb,SG,SH,bj,bg,AV.v.injEq,Value.int.injEq,Value.bool.injEq,Value.string.injEq,AV.vec.injEq,AV.ptr.injEq,true_or,or_true,false_or,or_false,aa.mk.injEq,forall_eq_apply_imp_iff,forall_eq,forall_eq',go_sem])
       all_goals first|rfl|trace_state
      ·simp only [hrp,TB,Sr,if_false,if_true] at eS1 eS2
       repeat (first|(with_reducible first|refine af.up ?_|refine fun (K:AK) hK=> ?_|(refine hK _ ?_;clear hK K))|simp only [go_sem,hrp]|with_reducible refine wA ?_|clear hK K)
       repeat (first|(with_reducible first|refine af.up ?_|refine fun (K:AK) hK=> ?_|(refine hK _ ?_;clear hK K))|simp only [go_sem,eWj]|with_reducible refine wA ?_|clear hK K)
       refine aQ.mk (j+1) hltj (by omega) ?_;simp only [eS1,eS2,eC1,eD1]
       (refine aj ?_ ?_ ?_<;>simp only [aT,R8,Sb,SG,SH,bj,bg,AV.v.injEq,Value.int.injEq,Value.bool.injEq,Value.string.injEq,AV.vec.injEq,AV.ptr.injEq,true_or,or_true,false_or,or_false,aa.mk.injEq,forall_eq_apply_imp_iff,forall_eq,forall_eq',go_sem])
       all_goals first|rfl|trace_state
     ·have hjn:j=ws.length:=by omega
      have e2:decide ((j:Int)<(ws.length:Int))=false:=decide_eq_false (by omega);rw [hjn] at e2;rw [hjn,SM]
      repeat ((fail_if_success (with_reducible refine br (i:=21) ?_));first|(with_reducible first|refine af.up ?_|refine fun (K:AK) hK=> ?_|(refine hK _ ?_;clear hK K))|simp only [go_sem,e2]|with_reducible refine wA ?_|clear hK K)
      refine aJ (da 12 9 rfl rfl rfl (Rv _)) (by kernel_rfl) ?_;refine aJ (cm (k:=3) (i:=0) (j:=8) (by decide) rfl (Tp _) rfl rfl rfl rfl (Rv _)) (by kernel_rfl) ?_;refine aJ (cm (k:=3) (i:=0) (j:=10) (by decide) rfl (Tp _) rfl rfl rfl rfl (Rv _)) (by kernel_rfl) ?_
      repeat (first|(with_reducible first|refine af.up ?_|refine fun (K:AK) hK=> ?_|(refine hK _ ?_;clear hK K))|simp only [go_sem]|with_reducible refine wA ?_|clear hK K)
      (refine ⟨?_, ?_, ?_⟩<;>simp only [bj,bg,AV.v.injEq,Value.int.injEq,Value.bool.injEq,Value.string.injEq,AV.vec.injEq,AV.ptr.injEq,true_or,or_true,false_or,or_false,aa.mk.injEq,forall_eq_apply_imp_iff,forall_eq,forall_eq',go_sem])
      all_goals first|rfl|trace_state
   ·rw [hL] at UN
    repeat ((fail_if_success (with_reducible refine br (i:=11) ?_));first|(with_reducible first|refine af.up ?_|refine fun (K:AK) hK=> ?_|(refine hK _ ?_;clear hK K))|simp only [go_sem,hh,hn,Go.undef]|with_reducible refine wA ?_|clear hK K)
    repeat (first|(with_reducible first|refine af.up ?_|refine fun (K:AK) hK=> ?_|(refine hK _ ?_;clear hK K))|simp only [go_sem]|with_reducible refine wA ?_|clear hK K)
    refine ae.fr [] CL (by simp) ?_ ?_ ?_ ?_ ?_
    ·rfl
    ·rfl
    ·rfl
    ·intro j ob hj;simp at hj
    repeat (first|(with_reducible first|refine af.up ?_|refine fun (K:AK) hK=> ?_|(refine hK _ ?_;clear hK K))|simp only [go_sem]|with_reducible refine wA ?_|clear hK K)
    refine ae.fr [4] UN (by simp) ?_ ?_ ?_ ?_ ?_
    ·simp only [Tc,Ti,RU,SC,Rb,aa.bl,bR,bQ,AV.bl,eZ,encS]
    ·rfl
    ·rfl
    ·intro j ob hj
     match j,hj with
     | 0,hj=>cases hj;rfl
     | j+1,hj=>simp at hj
    repeat ((fail_if_success (with_reducible refine br (i:=12) ?_));first|(with_reducible first|refine af.up ?_|refine fun (K:AK) hK=> ?_|(refine hK _ ?_;clear hK K))|simp only [go_sem,eZ]|with_reducible refine wA ?_|clear hK K)
    refine aJ (da 11 7 rfl rfl rfl eN) (by kernel_rfl) ?_
    repeat (first|(with_reducible first|refine af.up ?_|refine fun (K:AK) hK=> ?_|(refine hK _ ?_;clear hK K))|simp only [go_sem,eN,Tn,QC]|with_reducible refine wA ?_|clear hK K)
    refine ae.one CS ?_
    repeat ((fail_if_success (with_reducible refine br (i:=13) ?_));first|(with_reducible first|refine af.up ?_|refine fun (K:AK) hK=> ?_|(refine hK _ ?_;clear hK K))|simp only [go_sem]|with_reducible refine wA ?_|clear hK K)
    refine aJ (b7 (k:=3) (i:=0) (j:=10) 67 13 (by decide) rfl (Tp _) rfl rfl) (by kernel_rfl) ?_
    repeat (first|(with_reducible first|refine af.up ?_|refine fun (K:AK) hK=> ?_|(refine hK _ ?_;clear hK K))|simp only [go_sem]|with_reducible refine wA ?_|clear hK K)
    refine dD (ι:=Nat) 12 67 13 rfl (by decide) 68 (fun k=>[(12, .vec 9 ((ws.take k).filter (fun c=> !aR c now)).length),(14, .undef),(67, .v (.int .i64 k))]) (fun k=>[some ⟨23,1,false,[[.aE 13 (ws.map aK) ws.length]]⟩,some ⟨40,8,false,[[.v (.string f), .v (.string t), .v (.bool h), .v (.string l), .v (.string n), .v (.int .i64 xk), .v (.string xs), .aE 3 (xl.map bn) xl.length]]⟩,some ⟨45,11,false,[[.v (.string ⟨#[]⟩), .v (.string ⟨#[]⟩), .v (.bool false), .v (.string ⟨#[]⟩), .v (.string ⟨#[]⟩), .v (.int .i64 0), .v (.string ⟨#[]⟩), .v (.slice none 0 0), .v (.slice none 0 0), .v (.slice none 0 0), .v (.slice none 0 0)]]⟩,some ⟨45,11,false,[[.v (.string f), .v (.string t), .v (.bool h), .v (.string l), .v (.string n), .v (.int .i64 xk), .v (.string xs), .aE 3 (xl.map bn) xl.length, .vec 5 (kl.filter (hasB ([]:List ByteArray))).length, .aE 1 (now.map encS) now.length, .vec 8 ((ws.take k).filter (fun c=>aR c now)).length]]⟩,none,some ⟨9,1,true,(kl.filter (hasB ([]:List ByteArray))).map encS⟩,none,none,some ⟨67,13,true,((ws.take k).filter (fun c=>aR c now)).map aK⟩,some ⟨67,13,true,((ws.take k).filter (fun c=> !aR c now)).map aK⟩]) (fun k=>ws.length - k) (fun k=>k<=ws.length) 0 (QJ _) ?_ ?_
    ·simp only [S0,Tx,QC,Ti,Tz]
     (refine aj ?_ ?_ ?_<;>simp only [aT,R8,Sb,SG,SH,bj,bg,AV.v.injEq,Value.int.injEq,Value.bool.injEq,Value.string.injEq,AV.vec.injEq,AV.ptr.injEq,true_or,or_true,false_or,or_false,aa.mk.injEq,forall_eq_apply_imp_iff,forall_eq,forall_eq',go_sem])
     all_goals first|rfl|trace_state
    ·intro j hj K hK;have eWj:=aM (k:=j) (by omega)
     by_cases hltj:j<ws.length
     ·have e2:decide ((j:Int)<(ws.length:Int))=true:=decide_eq_true (by omega);have eG:=getD_map aK ws j [] hltj;have eS1:=cB (fun c=>aR c now) ws hltj;have eS2:=cB (fun c=> !aR c now) ws hltj;have C:=kJ ws[j] now;have l1:((ws.take j).filter (fun c=>aR c now)).length<=100000:=Qz (Ty _ _) (by rw [Q4];omega);have l2:((ws.take j).filter (fun c=> !aR c now)).length<=100000:=Qz (Ty _ _) (by rw [Q4];omega);generalize (ws.take j).filter (fun c=>aR c now)=cs1 at *;generalize (ws.take j).filter (fun c=> !aR c now)=cs2 at *
      have eL1:(cs1.map aK).length=cs1.length:=by simp
      have eL2:(cs2.map aK).length=cs2.length:=by simp
      have eC1:cs1.map aK++[aK ws[j]]=(cs1++[ws[j]]).map aK:=by simp
      have eC2:cs2.map aK++[aK ws[j]]=(cs2++[ws[j]]).map aK:=by simp
      have eD1:cs1.length+1=(cs1++[ws[j]]).length:=by simp
      have eD2:cs2.length+1=(cs2++[ws[j]]).length:=by simp
      simp only [aS,aK] at C;simp only [aK] at eG eC1 eC2
      repeat (first|(with_reducible first|refine af.up ?_|refine fun (K:AK) hK=> ?_|(refine hK _ ?_;clear hK K))|simp only [go_sem,e2,eG]|with_reducible refine wA ?_|clear hK K)
      refine ae.one C ?_
      cases hrp:aR ws[j] now
      ·simp only [hrp,TA,Sr,if_false,if_true] at eS1 eS2
       repeat (first|(with_reducible first|refine af.up ?_|refine fun (K:AK) hK=> ?_|(refine hK _ ?_;clear hK K))|simp only [go_sem,hrp]|with_reducible refine wA ?_|clear hK K)
       repeat (first|(with_reducible first|refine af.up ?_|refine fun (K:AK) hK=> ?_|(refine hK _ ?_;clear hK K))|simp only [go_sem,eWj]|with_reducible refine wA ?_|clear hK K)
       refine aQ.mk (j+1) hltj (by omega) ?_;simp only [eS1,eS2,eC2,eD2]
       (refine aj ?_ ?_ ?_<;>simp only [aT,R8,Sb,SG,SH,bj,bg,AV.v.injEq,Value.int.injEq,Value.bool.injEq,Value.string.injEq,AV.vec.injEq,AV.ptr.injEq,true_or,or_true,false_or,or_false,aa.mk.injEq,forall_eq_apply_imp_iff,forall_eq,forall_eq',go_sem])
       all_goals first|rfl|trace_state
      ·simp only [hrp,TB,Sr,if_false,if_true] at eS1 eS2
       repeat (first|(with_reducible first|refine af.up ?_|refine fun (K:AK) hK=> ?_|(refine hK _ ?_;clear hK K))|simp only [go_sem,hrp]|with_reducible refine wA ?_|clear hK K)
       repeat (first|(with_reducible first|refine af.up ?_|refine fun (K:AK) hK=> ?_|(refine hK _ ?_;clear hK K))|simp only [go_sem,eWj]|with_reducible refine wA ?_|clear hK K)
       refine aQ.mk (j+1) hltj (by omega) ?_;simp only [eS1,eS2,eC1,eD1]
       (refine aj ?_ ?_ ?_<;>simp only [aT,R8,Sb,SG,SH,bj,bg,AV.v.injEq,Value.int.injEq,Value.bool.injEq,Value.string.injEq,AV.vec.injEq,AV.ptr.injEq,true_or,or_true,false_or,or_false,aa.mk.injEq,forall_eq_apply_imp_iff,forall_eq,forall_eq',go_sem])
       all_goals first|rfl|trace_state
     ·have hjn:j=ws.length:=by omega
      have e2:decide ((j:Int)<(ws.length:Int))=false:=decide_eq_false (by omega);rw [hjn] at e2;rw [hjn,SM]
      repeat ((fail_if_success (with_reducible refine br (i:=21) ?_));first|(with_reducible first|refine af.up ?_|refine fun (K:AK) hK=> ?_|(refine hK _ ?_;clear hK K))|simp only [go_sem,e2]|with_reducible refine wA ?_|clear hK K)
      refine aJ (da 12 9 rfl rfl rfl (Rv _)) (by kernel_rfl) ?_;refine aJ (cm (k:=3) (i:=0) (j:=8) (by decide) rfl (Tp _) rfl rfl rfl rfl (Rv _)) (by kernel_rfl) ?_;refine aJ (cm (k:=3) (i:=0) (j:=10) (by decide) rfl (Tp _) rfl rfl rfl rfl (Rv _)) (by kernel_rfl) ?_
      repeat (first|(with_reducible first|refine af.up ?_|refine fun (K:AK) hK=> ?_|(refine hK _ ?_;clear hK K))|simp only [go_sem]|with_reducible refine wA ?_|clear hK K)
      (refine ⟨?_, ?_, ?_⟩<;>simp only [bj,bg,AV.v.injEq,Value.int.injEq,Value.bool.injEq,Value.string.injEq,AV.vec.injEq,AV.ptr.injEq,true_or,or_true,false_or,or_false,aa.mk.injEq,forall_eq_apply_imp_iff,forall_eq,forall_eq',go_sem])
      all_goals first|rfl|trace_state
   ·rw [hL] at UN
    repeat ((fail_if_success (with_reducible refine br (i:=10) ?_));first|(with_reducible first|refine af.up ?_|refine fun (K:AK) hK=> ?_|(refine hK _ ?_;clear hK K))|simp only [go_sem,hh,hn,Go.undef]|with_reducible refine wA ?_|clear hK K)
    refine o9 (AS.mk (aT 90 [(1, .v (.slice none 0 0)),(2, .ptr 0 0 1 0 0),(3, .ptr 1 0 8 0 0),(6, .ptr 2 0 11 0 0),(7, .ptr 3 0 11 0 0),(8, .vec 4 3)]) [some ⟨23,1,false,[[.aE 13 (ws.map aK) ws.length]]⟩,some ⟨40,8,false,[[.v (.string f), .v (.string t), .v (.bool h), .v (.string l), .v (.string n), .v (.int .i64 xk), .v (.string xs), .aE 3 (xl.map bn) xl.length]]⟩,some ⟨45,11,false,[[.v (.string ⟨#[]⟩), .v (.string ⟨#[]⟩), .v (.bool false), .v (.string ⟨#[]⟩), .v (.string ⟨#[]⟩), .v (.int .i64 0), .v (.string ⟨#[]⟩), .v (.slice none 0 0), .v (.slice none 0 0), .v (.slice none 0 0), .v (.slice none 0 0)]]⟩,some ⟨45,11,false,[[.v (.string f), .v (.string t), .v (.bool h), .v (.string l), .v (.string n), .v (.int .i64 xk), .v (.string xs), .aE 3 (xl.map bn) xl.length, .vec 5 (kl.filter (hasB ([]:List ByteArray))).length, .v (.slice none 0 0), .v (.slice none 0 0)]]⟩,some ⟨9,1,true,[[.v (.string f)],[.v (.string t)],[.v (.string n)]]⟩,some ⟨9,1,true,(kl.filter (hasB ([]:List ByteArray))).map encS⟩,some ⟨9,1,true,kl.map encS⟩] .no) (by kernel_rfl) ?_ ?_
    ·repeat (first|(with_reducible first|refine af.up ?_|refine fun (K:AK) hK=> ?_|(refine hK _ ?_;clear hK K))|simp only [go_sem]|with_reducible refine wA ?_|clear hK K)
     (refine aj ?_ ?_ ?_<;>simp only [aT,R8,Sb,SG,SH,bj,bg,AV.v.injEq,Value.int.injEq,Value.bool.injEq,Value.string.injEq,AV.vec.injEq,AV.ptr.injEq,true_or,or_true,false_or,or_false,aa.mk.injEq,forall_eq_apply_imp_iff,forall_eq,forall_eq',go_sem])
     all_goals first|rfl|trace_state
    simp only [aT,R8,Sb,SG,SH,go_sem]
    repeat ((fail_if_success (with_reducible refine br (i:=11) ?_));first|(with_reducible first|refine af.up ?_|refine fun (K:AK) hK=> ?_|(refine hK _ ?_;clear hK K))|simp only [go_sem]|with_reducible refine wA ?_|clear hK K)
    repeat (first|(with_reducible first|refine af.up ?_|refine fun (K:AK) hK=> ?_|(refine hK _ ?_;clear hK K))|simp only [go_sem]|with_reducible refine wA ?_|clear hK K)
    refine ae.fr [] CL (by simp) ?_ ?_ ?_ ?_ ?_
    ·rfl
    ·rfl
    ·rfl
    ·intro j ob hj;simp at hj
    repeat (first|(with_reducible first|refine af.up ?_|refine fun (K:AK) hK=> ?_|(refine hK _ ?_;clear hK K))|simp only [go_sem]|with_reducible refine wA ?_|clear hK K)
    refine ae.fr [4] UN (by simp) ?_ ?_ ?_ ?_ ?_
    ·simp only [Tc,Ti,RU,SC,Rb,aa.bl,bR,bQ,AV.bl,eZ,encS]
    ·rfl
    ·rfl
    ·intro j ob hj
     match j,hj with
     | 0,hj=>cases hj;rfl
     | j+1,hj=>simp at hj
    repeat ((fail_if_success (with_reducible refine br (i:=12) ?_));first|(with_reducible first|refine af.up ?_|refine fun (K:AK) hK=> ?_|(refine hK _ ?_;clear hK K))|simp only [go_sem,eZ]|with_reducible refine wA ?_|clear hK K)
    refine aJ (da 11 7 rfl rfl rfl eN) (by kernel_rfl) ?_
    repeat (first|(with_reducible first|refine af.up ?_|refine fun (K:AK) hK=> ?_|(refine hK _ ?_;clear hK K))|simp only [go_sem,eN,Tn,QC]|with_reducible refine wA ?_|clear hK K)
    refine ae.one CS ?_
    repeat ((fail_if_success (with_reducible refine br (i:=13) ?_));first|(with_reducible first|refine af.up ?_|refine fun (K:AK) hK=> ?_|(refine hK _ ?_;clear hK K))|simp only [go_sem]|with_reducible refine wA ?_|clear hK K)
    refine aJ (b7 (k:=3) (i:=0) (j:=10) 67 13 (by decide) rfl (Tp _) rfl rfl) (by kernel_rfl) ?_
    repeat (first|(with_reducible first|refine af.up ?_|refine fun (K:AK) hK=> ?_|(refine hK _ ?_;clear hK K))|simp only [go_sem]|with_reducible refine wA ?_|clear hK K)
    refine dD (ι:=Nat) 12 67 13 rfl (by decide) 68 (fun k=>[(12, .vec 9 ((ws.take k).filter (fun c=> !aR c now)).length),(14, .undef),(67, .v (.int .i64 k))]) (fun k=>[some ⟨23,1,false,[[.aE 13 (ws.map aK) ws.length]]⟩,some ⟨40,8,false,[[.v (.string f), .v (.string t), .v (.bool h), .v (.string l), .v (.string n), .v (.int .i64 xk), .v (.string xs), .aE 3 (xl.map bn) xl.length]]⟩,some ⟨45,11,false,[[.v (.string ⟨#[]⟩), .v (.string ⟨#[]⟩), .v (.bool false), .v (.string ⟨#[]⟩), .v (.string ⟨#[]⟩), .v (.int .i64 0), .v (.string ⟨#[]⟩), .v (.slice none 0 0), .v (.slice none 0 0), .v (.slice none 0 0), .v (.slice none 0 0)]]⟩,some ⟨45,11,false,[[.v (.string f), .v (.string t), .v (.bool h), .v (.string l), .v (.string n), .v (.int .i64 xk), .v (.string xs), .aE 3 (xl.map bn) xl.length, .vec 5 (kl.filter (hasB ([]:List ByteArray))).length, .aE 1 (now.map encS) now.length, .vec 8 ((ws.take k).filter (fun c=>aR c now)).length]]⟩,none,some ⟨9,1,true,(kl.filter (hasB ([]:List ByteArray))).map encS⟩,none,none,some ⟨67,13,true,((ws.take k).filter (fun c=>aR c now)).map aK⟩,some ⟨67,13,true,((ws.take k).filter (fun c=> !aR c now)).map aK⟩]) (fun k=>ws.length - k) (fun k=>k<=ws.length) 0 (QJ _) ?_ ?_
    ·simp only [S0,Tx,QC,Ti,Tz]
     (refine aj ?_ ?_ ?_<;>simp only [aT,R8,Sb,SG,SH,bj,bg,AV.v.injEq,Value.int.injEq,Value.bool.injEq,Value.string.injEq,AV.vec.injEq,AV.ptr.injEq,true_or,or_true,false_or,or_false,aa.mk.injEq,forall_eq_apply_imp_iff,forall_eq,forall_eq',go_sem])
     all_goals first|rfl|trace_state
    ·intro j hj K hK;have eWj:=aM (k:=j) (by omega)
     by_cases hltj:j<ws.length
     ·have e2:decide ((j:Int)<(ws.length:Int))=true:=decide_eq_true (by omega);have eG:=getD_map aK ws j [] hltj;have eS1:=cB (fun c=>aR c now) ws hltj;have eS2:=cB (fun c=> !aR c now) ws hltj;have C:=kJ ws[j] now;have l1:((ws.take j).filter (fun c=>aR c now)).length<=100000:=Qz (Ty _ _) (by rw [Q4];omega);have l2:((ws.take j).filter (fun c=> !aR c now)).length<=100000:=Qz (Ty _ _) (by rw [Q4];omega);generalize (ws.take j).filter (fun c=>aR c now)=cs1 at *;generalize (ws.take j).filter (fun c=> !aR c now)=cs2 at *
      have eL1:(cs1.map aK).length=cs1.length:=by simp
      have eL2:(cs2.map aK).length=cs2.length:=by simp
      have eC1:cs1.map aK++[aK ws[j]]=(cs1++[ws[j]]).map aK:=by simp
      have eC2:cs2.map aK++[aK ws[j]]=(cs2++[ws[j]]).map aK:=by simp
      have eD1:cs1.length+1=(cs1++[ws[j]]).length:=by simp
      have eD2:cs2.length+1=(cs2++[ws[j]]).length:=by simp
      simp only [aS,aK] at C;simp only [aK] at eG eC1 eC2
      repeat (first|(with_reducible first|refine af.up ?_|refine fun (K:AK) hK=> ?_|(refine hK _ ?_;clear hK K))|simp only [go_sem,e2,eG]|with_reducible refine wA ?_|clear hK K)
      refine ae.one C ?_
      cases hrp:aR ws[j] now
      ·simp only [hrp,TA,Sr,if_false,if_true] at eS1 eS2
       repeat (first|(with_reducible first|refine af.up ?_|refine fun (K:AK) hK=> ?_|(refine hK _ ?_;clear hK K))|simp only [go_sem,hrp]|with_reducible refine wA ?_|clear hK K)
       repeat (first|(with_reducible first|refine af.up ?_|refine fun (K:AK) hK=> ?_|(refine hK _ ?_;clear hK K))|simp only [go_sem,eWj]|with_reducible refine wA ?_|clear hK K)
       refine aQ.mk (j+1) hltj (by omega) ?_;simp only [eS1,eS2,eC2,eD2]
       (refine aj ?_ ?_ ?_<;>simp only [aT,R8,Sb,SG,SH,bj,bg,AV.v.injEq,Value.int.injEq,Value.bool.injEq,Value.string.injEq,AV.vec.injEq,AV.ptr.injEq,true_or,or_true,false_or,or_false,aa.mk.injEq,forall_eq_apply_imp_iff,forall_eq,forall_eq',go_sem])
       all_goals first|rfl|trace_state
      ·simp only [hrp,TB,Sr,if_false,if_true] at eS1 eS2
       repeat (first|(with_reducible first|refine af.up ?_|refine fun (K:AK) hK=> ?_|(refine hK _ ?_;clear hK K))|simp only [go_sem,hrp]|with_reducible refine wA ?_|clear hK K)
       repeat (first|(with_reducible first|refine af.up ?_|refine fun (K:AK) hK=> ?_|(refine hK _ ?_;clear hK K))|simp only [go_sem,eWj]|with_reducible refine wA ?_|clear hK K)
       refine aQ.mk (j+1) hltj (by omega) ?_;simp only [eS1,eS2,eC1,eD1]
       (refine aj ?_ ?_ ?_<;>simp only [aT,R8,Sb,SG,SH,bj,bg,AV.v.injEq,Value.int.injEq,Value.bool.injEq,Value.string.injEq,AV.vec.injEq,AV.ptr.injEq,true_or,or_true,false_or,or_false,aa.mk.injEq,forall_eq_apply_imp_iff,forall_eq,forall_eq',go_sem])
       all_goals first|rfl|trace_state
     ·have hjn:j=ws.length:=by omega
      have e2:decide ((j:Int)<(ws.length:Int))=false:=decide_eq_false (by omega);rw [hjn] at e2;rw [hjn,SM]
      repeat ((fail_if_success (with_reducible refine br (i:=21) ?_));first|(with_reducible first|refine af.up ?_|refine fun (K:AK) hK=> ?_|(refine hK _ ?_;clear hK K))|simp only [go_sem,e2]|with_reducible refine wA ?_|clear hK K)
      refine aJ (da 12 9 rfl rfl rfl (Rv _)) (by kernel_rfl) ?_;refine aJ (cm (k:=3) (i:=0) (j:=8) (by decide) rfl (Tp _) rfl rfl rfl rfl (Rv _)) (by kernel_rfl) ?_;refine aJ (cm (k:=3) (i:=0) (j:=10) (by decide) rfl (Tp _) rfl rfl rfl rfl (Rv _)) (by kernel_rfl) ?_
      repeat (first|(with_reducible first|refine af.up ?_|refine fun (K:AK) hK=> ?_|(refine hK _ ?_;clear hK K))|simp only [go_sem]|with_reducible refine wA ?_|clear hK K)
      (refine ⟨?_, ?_, ?_⟩<;>simp only [bj,bg,AV.v.injEq,Value.int.injEq,Value.bool.injEq,Value.string.injEq,AV.vec.injEq,AV.ptr.injEq,true_or,or_true,false_or,or_false,aa.mk.injEq,forall_eq_apply_imp_iff,forall_eq,forall_eq',go_sem])
      all_goals first|rfl|trace_state
noncomputable def qc (x:Ex):Int:=match zQ x (dX x) with
 | .inl _=>0
 | .inr e=>e
theorem Jv (x:Ex) (ho:x.ok): ∃c:AV,c.wf 0=true∧ah Tryz.prog 70 [.agg (bn x)] (.dA [c, .v (.int .i64 (qc x))]):=by
 have C:=Jl x ho;have hF:=AG x;unfold B8 at C hF;unfold qc;generalize zQ x (dX x)=y at C hF
 cases y with
 | inl A=>exact ⟨_,by simp only [AV.wf,bw,xF,SE],C⟩
 | inr e=>exact ⟨.v (.pointer none),rfl,C⟩
noncomputable def nF:List bV->Int
 | []=>0
 | p :: ps=>if p.path&&qc p.expr !=0 then qc p.expr else nF ps
theorem JX {ps:List bV} {k:Nat} (h:k<ps.length):nF (ps.drop k)=if ps[k].path&&qc ps[k].expr !=0 then qc ps[k].expr else nF (ps.drop (k+1)):=by
 rw [List.drop_eq_getElem_cons h,nF]
theorem Ch (q:fF) (ho:q.ok) (h1:q.au.length<=1000000):ah Tryz.prog 37 [.agg (b8 q)] (.v (.int .i64 (nF q.au))):=by
 have hok: ∀p∈q.au,p.expr.ok:=fun p hp=>(ho.1 p hp).2.2.2.2;obtain ⟨ps,cs,rs,ra,sl⟩:=q;simp only [b8] at *
 (refine ah.enter Tryz.func37 rfl (by kernel_rfl) (by kernel_rfl) rfl (by first|rfl|(simp only [go_sem,SE,Bool.and_true,Bool.true_and])) (by first|rfl|(simp only [go_sem,SE,Bool.and_true,Bool.true_and])) ?_;simp only [Tryz.ntmps37,Tryz.results37,List.length_cons,List.length_nil,Nat.reduceAdd,Nat.reduceSub,SG,SH,List.cons_append,List.nil_append])
 repeat (first|(with_reducible first|refine af.up ?_|refine fun (K:AK) hK=> ?_|(refine hK _ ?_;clear hK K))|simp only [go_sem]|with_reducible refine wA ?_|clear hK K)
 refine dq (ι:=Nat) 11 (fun k=>[(4, .undef),(5, .undef),(6, .undef),(10, .v (.int .i64 k))]) (fun k=>ps.length - k) (fun k=>k<=ps.length∧nF (ps.drop k)=nF ps) 0 ⟨Nat.zero_le _,rfl⟩ ?_ ?_
 ·(refine aj ?_ ?_ ?_<;>simp only [aT,R8,Sb,SG,SH,bj,bg,AV.v.injEq,Value.int.injEq,Value.bool.injEq,Value.string.injEq,AV.vec.injEq,AV.ptr.injEq,true_or,or_true,false_or,or_false,aa.mk.injEq,forall_eq_apply_imp_iff,forall_eq,forall_eq',go_sem])
  all_goals first|rfl|trace_state
 ·rintro k ⟨hk,he⟩ K hK;have eW:=aM (k:=k) (by omega)
  by_cases hlt:k<ps.length
  ·have e1:decide ((k:Int)<(ps.length:Int))=true:=decide_eq_true (by omega);have eG:=getD_map bH ps k [] hlt;obtain ⟨c,wc,CN⟩:=Jv ps[k].expr (hok _ (List.getElem_mem hlt));rw [JX hlt] at he;rw [bE] at CN;simp only [bH] at eG;generalize ps[k]=p at *
   cases hb:p.path
   ·rw [hb] at he;simp only [Bool.false_and,Bool.false_eq_true,if_false] at he
    repeat (first|(with_reducible first|refine af.up ?_|refine fun (K:AK) hK=> ?_|(refine hK _ ?_;clear hK K))|simp only [go_sem,e1,eG,hb]|with_reducible refine wA ?_|clear hK K)
    repeat (first|(with_reducible first|refine af.up ?_|refine fun (K:AK) hK=> ?_|(refine hK _ ?_;clear hK K))|simp only [go_sem,eW]|with_reducible refine wA ?_|clear hK K)
    exact aQ.mk (k+1) ⟨hlt,he⟩ (by omega) (by (refine aj ?_ ?_ ?_<;>simp only [aT,R8,Sb,SG,SH,bj,bg,AV.v.injEq,Value.int.injEq,Value.bool.injEq,Value.string.injEq,AV.vec.injEq,AV.ptr.injEq,true_or,or_true,false_or,or_false,aa.mk.injEq,forall_eq_apply_imp_iff,forall_eq,forall_eq',go_sem]))
   ·rw [hb] at he
    repeat (first|(with_reducible first|refine af.up ?_|refine fun (K:AK) hK=> ?_|(refine hK _ ?_;clear hK K))|simp only [go_sem,e1,eG,hb]|with_reducible refine wA ?_|clear hK K)
    refine ae.one CN ?_
    by_cases hz:qc p.expr=0
    ·rw [hz] at he
     repeat (first|(with_reducible first|refine af.up ?_|refine fun (K:AK) hK=> ?_|(refine hK _ ?_;clear hK K))|simp only [go_sem,hz]|with_reducible refine wA ?_|clear hK K)
     repeat (first|(with_reducible first|refine af.up ?_|refine fun (K:AK) hK=> ?_|(refine hK _ ?_;clear hK K))|simp only [go_sem,eW]|with_reducible refine wA ?_|clear hK K)
     exact aQ.mk (k+1) ⟨hlt,by simpa using he⟩ (by omega) (by (refine aj ?_ ?_ ?_<;>simp only [aT,R8,Sb,SG,SH,bj,bg,AV.v.injEq,Value.int.injEq,Value.bool.injEq,Value.string.injEq,AV.vec.injEq,AV.ptr.injEq,true_or,or_true,false_or,or_false,aa.mk.injEq,forall_eq_apply_imp_iff,forall_eq,forall_eq',go_sem]))
    ·have f1:(qc p.expr !=0)=true:=by simpa using hz
     have f2:(qc p.expr==0)=false:=by simpa using hz
     rw [f1] at he
     repeat (first|(with_reducible first|refine af.up ?_|refine fun (K:AK) hK=> ?_|(refine hK _ ?_;clear hK K))|simp only [go_sem,f1,f2]|with_reducible refine wA ?_|clear hK K)
     rw [<-he]
     rfl
  ·have e1:decide ((k:Int)<(ps.length:Int))=false:=decide_eq_false (by omega)
   have e0:nF ps=0:=by rw [<-he,List.drop_of_length_le (by omega),nF]
   repeat (first|(with_reducible first|refine af.up ?_|refine fun (K:AK) hK=> ?_|(refine hK _ ?_;clear hK K))|simp only [go_sem,e1]|with_reducible refine wA ?_|clear hK K)
   rw [e0]
theorem sJ {z:Nat} {D:Nat->Prop} {nu:Nat->Nat->Value} {o:List (Option aa)} {w:World} {x:Value} (h:RA D nu o w (.aE z [] 0) x): ∃a c,x = .slice a 0 c:=by
 cases h with
 | bm=>exact ⟨_,_,rfl⟩
 | bz _ a=>exact ⟨_,_,rfl⟩
 | aE _ _ _ b off cap f=>exact ⟨_,_,rfl⟩
theorem K0 (l:List dK) (hl:l.length<=1000000) (hne:l≠[]):bG Tryz.prog 38 [.aE 13 (l.map aK) l.length] [] (.vec 0 l.length) [some ⟨67,13,true,l.map aK⟩]:=by
 have hpos:0<l.length:=by cases l<;>simp_all
 have eL:(l.map aK).length=l.length:=by simp
 (refine bG.enter Tryz.func38 rfl (by kernel_rfl) (by kernel_rfl) rfl ?_;simp only [Tryz.ntmps38,Tryz.results38,QI,QC,Nat.reduceAdd,Nat.reduceSub,SG,SH,SB,SA])
 repeat (first|(with_reducible first|refine af.up ?_|refine fun (K:AK) hK=> ?_|(refine hK _ ?_;clear hK K))|simp only [go_sem,eL]|with_reducible refine wA ?_|clear hK K)
 refine ⟨fun e=>hne (by simpa using e), ?_⟩;have eT:(l.map aK).take l.length=l.map aK:=SX (by omega)
 repeat (first|(with_reducible first|refine af.up ?_|refine fun (K:AK) hK=> ?_|(refine hK _ ?_;clear hK K))|simp only [go_sem,eL,eT]|with_reducible refine wA ?_|clear hK K)
 (refine ⟨?_, ?_, ?_⟩<;>simp only [bj,bg,AV.v.injEq,Value.int.injEq,Value.bool.injEq,Value.string.injEq,AV.vec.injEq,AV.ptr.injEq,true_or,or_true,false_or,or_false,aa.mk.injEq,forall_eq_apply_imp_iff,forall_eq,forall_eq',go_sem])
theorem KY:ah Tryz.prog 38 [.aE 13 [] 0] (.aE 13 [] 0):=by
 refine ⟨⟨rfl,rfl⟩,by kernel_rfl,fun D nu w vargs hro hra=> ?_⟩;obtain ⟨x,rfl,hx⟩:=dI hra;obtain ⟨a,c,rfl⟩:=sJ hx
 have key:Calls Tryz.prog 38 #[.slice a 0 c] w (fun e w'=> ∃b,e = .returned (.slice b 0 0)∧Below w.heap.size w w'):=by
  have hq: ∀w,(binOp .eql 23 (.slice a 0 c) (.slice none 0 0)).run Tryz.prog w = .ok (.bool a.isNone) w:=fun w=>(jC (by kernel_rfl)).1;have HB:=Lib.hid (fun ob=>((Below.refl w.heap.size w).alloc (Qy _) ob))
  cases a with
  | none=>
   clear hx hra hro
   go_enter Tryz.func38,Tryz.ntmps38
   go_wp2
   go_ret
   exact ⟨none,rfl, .refl _ _⟩
  | some a=>
   clear hx hra hro
   go_enter Tryz.func38,Tryz.ntmps38
   go_wp2
   go_ret
   exact ⟨some _,rfl,HB.out _⟩
 refine key.mono ?_;rintro e w' ⟨b,rfl,hb⟩;refine ⟨_,nu,[], .aE 13 [] 0,rfl,ar hb,hro.below hb, ?_,rfl,rfl⟩
 cases b with
 | none=>exact .bm 13
 | some b=>exact .bz 13 b
theorem KZ (l:List dK) (hl:l.length<=1000000):ah Tryz.prog 38 [.aE 13 (l.map aK) l.length] (.aE 13 (l.map aK) l.length):=by
 by_cases h:l=[]
 ·subst h;exact KY
 ·exact (K0 l hl h).OV 8 rfl ⟨by simp,by simp,bA _ (fun _=>rfl) _⟩ (by simp only [go_sem]) (bA _ (fun _=>rfl) _)
theorem K5 (l:List eX) (hl:l.length<=1000000) (hne:l≠[]):bG Tryz.prog 40 [.aE 6 (l.map df) l.length] [] (.vec 0 l.length) [some ⟨65,6,true,l.map df⟩]:=by
 have hpos:0<l.length:=by cases l<;>simp_all
 have eL:(l.map df).length=l.length:=by simp
 (refine bG.enter Tryz.func40 rfl (by kernel_rfl) (by kernel_rfl) rfl ?_;simp only [Tryz.ntmps40,Tryz.results40,QI,QC,Nat.reduceAdd,Nat.reduceSub,SG,SH,SB,SA])
 repeat (first|(with_reducible first|refine af.up ?_|refine fun (K:AK) hK=> ?_|(refine hK _ ?_;clear hK K))|simp only [go_sem,eL]|with_reducible refine wA ?_|clear hK K)
 refine ⟨fun e=>hne (by simpa using e), ?_⟩;have eT:(l.map df).take l.length=l.map df:=SX (by omega)
 repeat (first|(with_reducible first|refine af.up ?_|refine fun (K:AK) hK=> ?_|(refine hK _ ?_;clear hK K))|simp only [go_sem,eL,eT]|with_reducible refine wA ?_|clear hK K)
 (refine ⟨?_, ?_, ?_⟩<;>simp only [bj,bg,AV.v.injEq,Value.int.injEq,Value.bool.injEq,Value.string.injEq,AV.vec.injEq,AV.ptr.injEq,true_or,or_true,false_or,or_false,aa.mk.injEq,forall_eq_apply_imp_iff,forall_eq,forall_eq',go_sem])
theorem K3:ah Tryz.prog 40 [.aE 6 [] 0] (.aE 6 [] 0):=by
 refine ⟨⟨rfl,rfl⟩,by kernel_rfl,fun D nu w vargs hro hra=> ?_⟩;obtain ⟨x,rfl,hx⟩:=dI hra;obtain ⟨a,c,rfl⟩:=sJ hx
 have key:Calls Tryz.prog 40 #[.slice a 0 c] w (fun e w'=> ∃b,e = .returned (.slice b 0 0)∧Below w.heap.size w w'):=by
  have hq: ∀w,(binOp .eql 24 (.slice a 0 c) (.slice none 0 0)).run Tryz.prog w = .ok (.bool a.isNone) w:=fun w=>(jC (by kernel_rfl)).1;have HB:=Lib.hid (fun ob=>((Below.refl w.heap.size w).alloc (Qy _) ob))
  cases a with
  | none=>
   clear hx hra hro
   go_enter Tryz.func40,Tryz.ntmps40
   go_wp2
   go_ret
   exact ⟨none,rfl, .refl _ _⟩
  | some a=>
   clear hx hra hro
   go_enter Tryz.func40,Tryz.ntmps40
   go_wp2
   go_ret
   exact ⟨some _,rfl,HB.out _⟩
 refine key.mono ?_;rintro e w' ⟨b,rfl,hb⟩;refine ⟨_,nu,[], .aE 6 [] 0,rfl,ar hb,hro.below hb, ?_,rfl,rfl⟩
 cases b with
 | none=>exact .bm 6
 | some b=>exact .bz 6 b
theorem K4 (l:List eX) (hl:l.length<=1000000):ah Tryz.prog 40 [.aE 6 (l.map df) l.length] (.aE 6 (l.map df) l.length):=by
 by_cases h:l=[]
 ·subst h;exact K3
 ·exact (K5 l hl h).OV 8 rfl ⟨by simp,by simp,bA _ (fun _=>rfl) _⟩ (by simp only [go_sem]) (bA _ (fun _=>rfl) _)
def cW (s:A5):List AV:=bH s.pat++[aS s.keys,aS s.binds, .aE 13 (s.conds.map aK) s.conds.length]
structure MD where
 bound:List ByteArray
 waits:List dK
 steps:List A5
def ny (ps:List bV) (d:MD) (k:Nat):MD:=⟨bS (iX ps k) d.bound,leftOf (iX ps k) d.bound d.waits,d.steps++[CA (iX ps k) d.bound d.waits]⟩
def nt (ps:List bV) (ks:List Nat) (cs:List dK) (k:Nat):MD:=(ks.take k).foldl (ny ps) ⟨[],cs,[]⟩
theorem sF (ps:List bV): ∀(ks:List Nat) (d:MD),(ks.foldl (ny ps) d).steps=d.steps++il ps ks d.bound d.waits
 | [],d=>by rw [Sb,il,Tr]
 | k :: ks,d=>by rw [R8,sF ps ks,il,ny,List.append_assoc];rfl
theorem wV (ps:List bV) (ks:List Nat) (cs:List dK):(nt ps ks cs ks.length).steps=il ps ks [] cs:=by
 rw [nt,List.take_length,sF];rfl
theorem nv {ps:List bV} {ks:List Nat} {cs:List dK} {k:Nat} (h:k<ks.length):nt ps ks cs (k+1)=ny ps (nt ps ks cs k) ks[k]:=by
 rw [nt,List.take_succ_eq_append_getElem h,List.foldl_append];rfl
theorem pY (p:bV) (b:List ByteArray) (ws:List dK):(leftOf p b ws).length<=ws.length:=List.length_filter_le _ _
theorem qq (ps:List bV) (ks:List Nat) (cs:List dK): ∀k,k<=ks.length->(nt ps ks cs k).bound.length<=3 * k∧(nt ps ks cs k).waits.length<=cs.length∧(nt ps ks cs k).steps.length=k
 | 0,_=>⟨Qy _,Qy _,rfl⟩
 | k+1,h=>by
  obtain ⟨h1,h2,h3⟩:=qq ps ks cs k (by omega);rw [nv (by omega),ny];refine ⟨?_,Nat.le_trans (pY _ _ _) h2,by simp [h3]⟩
  have:=kH (iX ps ks[k]) (nt ps ks cs k).bound
  show (bS _ _).length<=_;omega
theorem sw: ∀(l acc:List ByteArray) (x:ByteArray),x∈acc∨x∈l->x∈l.foldl aq acc
 | [],acc,x,h=>by rcases h with h|h;exact h;cases h
 | a :: l,acc,x,h=>by
  rw [R8];refine sw l _ x ?_
  rcases h with h|h
  ·left;unfold aq;split
   ·exact h
   ·exact List.mem_append_left _ h
  ·rcases List.mem_cons.1 h with rfl|h
   ·left;unfold aq;split
    ·rename_i hb;exact vT.1 hb
    ·simp
   ·exact .inr h
theorem wv (p:bV) (b:List ByteArray):bS p b≠[]:=by
 intro h
 have hm:p.aT∈bS p b:=by
  rw [bS];exact sw _ _ _ (.inr (by simp [aU]))
 rw [h] at hm;cases hm
theorem Hx {ps:List bV} {ks:List Nat} {cs:List dK} {k:Nat} (h:k<ks.length):(nt ps ks cs (k+1)).bound≠[]:=by
 rw [nv h];exact wv _ _
noncomputable def gm (q:fF):Int:=if iT q≠0 then iT q else nF q.au
def gC (q:fF):List A5:=il q.au (gj q.au) [] q.conds
noncomputable def gB (q:fF):AV:=if gm q≠0 then .dA [.agg [.v (.slice none 0 0), .v (.slice none 0 0), .v (.int .i64 0), .v (.int .i64 0)], .v (.int .i64 (gm q))] else .dA [.agg [.aE 11 ((gC q).map cW) (gC q).length, .aE 6 (q.ret.map df) q.ret.length, .v (.int .i64 q.range), .v (.int .i64 q.gq)], .v (.int .i64 0)]
theorem wJ (ps:List bV):(gj ps).length<=ps.length:=by
 have h:=(Al ps).len;have h2:=wx ps;simp at h;omega
theorem Cj {ps:List bV} {k:Nat} (h:k<ps.length):iX ps k=ps[k]:=by
 rw [iX,List.getD_eq_getElem?_getD,List.getElem?_eq_getElem h];rfl
theorem xE (n:Nat): ∀a b:List AV,bw n (a++b)=(bw n a&&bw n b)
 | [],b=>by simp [bw]
 | x :: a,b=>by rw [SB,bw,bw,xE n a b,Bool.and_assoc]
theorem cO (n:Nat) (l:List A5):dz n (l.map cW)=true:=bA _ (fun d=>by simp only [cW,aS,xE,mF,bw,AV.wf,aD,iH,SE,R0]) _
theorem qt (q:fF) (ho:q.ok) (h1:q.au.length<=1000) (h2:q.conds.length<=1000) (h3:q.ret.length<=1000) (hx: ∀p∈q.au,p.expr.lens 1000000):ah Tryz.prog 9 [.agg (b8 q)] (gB q):=by
 have CQ:=nA q ho (by omega) (by omega) (by omega);have CS:=Ch q ho (by omega);have CO:=ND q ho (by omega) (by omega) (by omega);have CC:=KZ q.conds (by omega);have CR:=K4 q.ret (by omega);have hol: ∀k∈gj q.au,k<q.au.length:=fun k hk=>Ak hk
 by_cases hc:iT q=0
 ·rw [if_pos hc] at CO;rw [hc] at CQ
  by_cases hs:nF q.au=0
  ·have e0:gm q=0:=by rw [gm,if_neg (by simpa using hc)];exact hs
   have hR:gB q = .dA [.agg [.aE 11 ((gC q).map cW) (gC q).length, .aE 6 (q.ret.map df) q.ret.length, .v (.int .i64 q.range), .v (.int .i64 q.gq)], .v (.int .i64 0)]:=by rw [gB,if_neg (by simpa using e0)]
   have hP:gC q=(nt q.au (gj q.au) q.conds (gj q.au).length).steps:=(wV _ _ _).symm;rw [hR,hP];rw [hs] at CS;have hlen:=qq q.au (gj q.au) q.conds;have hsucc:=fun k (h:k<(gj q.au).length)=>nv (ps:=q.au) (cs:=q.conds) h;have hne:=fun k (h:k<(gj q.au).length)=>Hx (ps:=q.au) (cs:=q.conds) h;have h0:nt q.au (gj q.au) q.conds 0=⟨[],q.conds,[]⟩:=rfl;have hle:(gj q.au).length<=1000:=Nat.le_trans (wJ q.au) h1;generalize nt q.au (gj q.au) q.conds=pl at *;generalize gj q.au=ks at *;clear hR hP e0;obtain ⟨ps,cs,rs,ra,sl⟩:=q;simp only [b8] at *
   (refine ah.enter Tryz.func9 rfl (by kernel_rfl) (by kernel_rfl) rfl (by simp only [go_sem,bw,AV.wf,SE,R0,R3,cO]) (by simp only [go_sem,bw,AV.wf,aD,SE,R0,R3,cO]) ?_;simp only [Tryz.ntmps9,Tryz.results9,QI,QC,Nat.reduceAdd,Nat.reduceSub,SG,SH,SB,SA])
   repeat (first|(with_reducible first|refine af.up ?_|refine fun (K:AK) hK=> ?_|refine ag (by decide) ?_|(refine hK _ ?_;clear hK K))|simp only [go_sem]|with_reducible refine wA ?_|(refine aI rfl ?_)|(refine aC rfl ?_)|clear hK K)
   refine ae.one CQ ?_
   repeat (first|(with_reducible first|refine af.up ?_|refine fun (K:AK) hK=> ?_|refine ag (by decide) ?_|(refine hK _ ?_;clear hK K))|simp only [go_sem]|with_reducible refine wA ?_|(refine aI rfl ?_)|(refine aC rfl ?_)|clear hK K)
   refine ae.one CS ?_
   repeat (first|(with_reducible first|refine af.up ?_|refine fun (K:AK) hK=> ?_|refine ag (by decide) ?_|(refine hK _ ?_;clear hK K))|simp only [go_sem]|with_reducible refine wA ?_|(refine aI rfl ?_)|(refine aC rfl ?_)|clear hK K)
   refine ae.one CO ?_
   repeat (first|(with_reducible first|refine af.up ?_|refine fun (K:AK) hK=> ?_|refine ag (by decide) ?_|(refine hK _ ?_;clear hK K))|simp only [go_sem]|with_reducible refine wA ?_|(refine aI rfl ?_)|(refine aC rfl ?_)|clear hK K)
   refine ae.one CC ?_
   repeat ((fail_if_success (with_reducible refine br (i:=12) ?_));first|(with_reducible first|refine af.up ?_|refine fun (K:AK) hK=> ?_|refine ag (by decide) ?_|(refine hK _ ?_;clear hK K))|simp only [go_sem]|with_reducible refine wA ?_|(refine aI rfl ?_)|(refine aC rfl ?_)|clear hK K)
   refine aJ (b7 (k:=1) (i:=0) (j:=0) 45 11 (by decide) rfl (Nat.zero_lt_succ _) rfl rfl) (by kernel_rfl) ?_
   repeat (first|(with_reducible first|refine af.up ?_|refine fun (K:AK) hK=> ?_|refine ag (by decide) ?_|(refine hK _ ?_;clear hK K))|simp only [go_sem]|with_reducible refine wA ?_|(refine aI rfl ?_)|(refine aC rfl ?_)|clear hK K)
   refine cM (ι:=Nat) 39 (fun k=>[(8,if k=0 then .v (.slice none 0 0) else .vec 5 (pl k).bound.length),(10, .undef),(11, .undef),(38, .v (.int .i64 k))]) (fun k=>[some ⟨26,5,false,[[.aE 8 (ps.map bH) ps.length, .aE 13 (cs.map aK) cs.length, .aE 6 (rs.map df) rs.length, .v (.int .i64 ra), .v (.int .i64 sl)]]⟩,some ⟨31,4,false,[[.vec 3 (pl k).steps.length, .v (.slice none 0 0), .v (.int .i64 0), .v (.int .i64 0)]]⟩,some ⟨23,1,false,[[.aE 13 ((pl k).waits.map aK) (pl k).waits.length]]⟩,some ⟨45,11,true,(pl k).steps.map cW⟩]++if k=0 then [] else [none,some ⟨9,1,true,(pl k).bound.map encS⟩]) (fun k=>ks.length - k) (fun k=>k<=ks.length) 0 (Nat.zero_le _) ?_ ?_
   ·simp only [h0,if_true,Tr,Ti,QC]
    (refine aj ?_ ?_ ?_<;>simp only [aT,R8,Sb,SG,SH,bj,bg,AV.v.injEq,Value.int.injEq,Value.bool.injEq,Value.string.injEq,AV.vec.injEq,AV.ptr.injEq,true_or,or_true,false_or,or_false,aa.mk.injEq,forall_eq_apply_imp_iff,forall_eq,forall_eq',go_sem])
    all_goals first|rfl|trace_state
   ·intro k hk K hK;have eW:=aM (k:=k) (by omega);have hl:=hlen k hk
    have eN:(az ks).length=ks.length:=by simp [az]
    by_cases hlt:k<ks.length
    ·have e1:decide ((k:Int)<(ks.length:Int))=true:=decide_eq_true (by omega);have hi:=hol ks[k] (List.getElem_mem hlt)
     have eGk:(az ks).getD k []=[.v (.int .i64 (ks[k]:Nat))]:=by rw [az,getD_map _ ks k [] hlt]
     have eGp:=getD_map bH ps ks[k] [] hi;have eP:=Cj hi;have hxp:=hx ps[ks[k]] (List.getElem_mem hi);have hS:=hsucc k hlt;simp only [ny,eP] at hS;have hnl:=kH ps[ks[k]] (pl k).bound;have hpre:=sr ps[ks[k]] (pl k).bound;have hll:=pY ps[ks[k]] (pl k).bound (pl k).waits
     by_cases hk0:k=0
     ·have hb0:(pl k).bound=[]:=by rw [hk0,h0]
      have C:=Ig ps[ks[k]] (pl k).waits hxp (by omega);rw [hb0] at hS hnl hpre hll;have eSt:cW (CA ps[ks[k]] [] (pl k).waits)=bH ps[ks[k]]++[aS (keysOf ps[ks[k]] []),aS (bS ps[ks[k]] []), .aE 13 (((pl k).waits.filter (fun c=>aR c (bS ps[ks[k]] []))).map aK) ((pl k).waits.filter (fun c=>aR c (bS ps[ks[k]] []))).length]:=rfl;have hne2:=wv ps[ks[k]] []
      have eKl:(((keysOf ps[ks[k]] []).map encS)).length=(keysOf ps[ks[k]] []).length:=by simp
      rw [<-eSt] at C
      have hSs:(pl (k+1)).steps.map cW=(pl k).steps.map cW++[cW (CA ps[ks[k]] [] (pl k).waits)]:=by rw [hS];simp
      have hSb:(pl (k+1)).bound=bS ps[ks[k]] []:=by rw [hS]
      have hSw:(pl (k+1)).waits=leftOf ps[ks[k]] [] (pl k).waits:=by rw [hS]
      have hSl:(pl (k+1)).steps.length=(pl k).steps.length+1:=by rw [hS];simp
      rw [eSt] at C hSs;simp only [bH,aS,SB,SA] at C hSs;simp only [bH] at eGp;generalize ks[k]=kk at *;generalize (pl k).waits.filter (fun c=>aR c (bS ps[kk] []))=cn at *;generalize leftOf ps[kk] [] (pl k).waits=lf at *;generalize bS ps[kk] []=nw at *;generalize keysOf ps[kk] []=ky at *;generalize ps[kk]=p at *
      have eNw:(nw.map encS).length=nw.length:=by simp
      have eT:(nw.map encS).take nw.length=nw.map encS:=SX (by simp);simp only [QC,Nat.zero_add] at hnl
      have eNs:((pl k).steps.map cW).length=(pl k).steps.length:=by simp
      have eZ: ∀f l,bR f (List.map encS l)=List.map encS l:=fun f l=>bN _ _ (aD _ _);have eZc: ∀f l,bR f (List.map aK l)=List.map aK l:=fun f l=>bN _ _ (iH _ _);have eZe: ∀f l,bR f (List.map bn l)=List.map bn l:=fun f l=>bN _ _ (dJ _ _);simp only [if_pos hk0,Tr]
      repeat (first|(with_reducible first|refine af.up ?_|refine fun (K:AK) hK=> ?_|refine ag (by decide) ?_|(refine hK _ ?_;clear hK K))|simp only [go_sem,e1,eGk,eGp]|with_reducible refine wA ?_|(refine aI rfl ?_)|(refine aC rfl ?_)|clear hK K)
      refine ae.fr [2] C (by simp) ?_ ?_ ?_ ?_ ?_
      ·simp only [List.map_cons,Ti,RU,SC,Option.map_some,aa.bl,bR,bQ,AV.bl,eZc]
      ·simp only [bQ,AV.bl,eZe];rfl
      ·simp only [bw,AV.wf,dJ,SE];rfl
      ·intro j ob hj
       match j,hj with
       | 0,hj=>cases hj;simp only [dz,bw,AV.wf,iH,SE]
       | j+1,hj=>simp at hj
      repeat (first|(with_reducible first|refine af.up ?_|refine fun (K:AK) hK=> ?_|refine ag (by decide) ?_|(refine hK _ ?_;clear hK K))|simp only [go_sem,eZ,eZc,eZe,eNw,eNs,hne2,eT]|with_reducible refine wA ?_|(refine aI rfl ?_)|(refine aC rfl ?_)|clear hK K)
      repeat (first|(with_reducible first|refine af.up ?_|refine fun (K:AK) hK=> ?_|refine ag (by decide) ?_|(refine hK _ ?_;clear hK K))|simp only [go_sem,eW]|with_reducible refine wA ?_|(refine aI rfl ?_)|(refine aC rfl ?_)|clear hK K)
      refine aQ.mk (k+1) hlt (by omega) ?_;simp only [if_neg (Nat.succ_ne_zero k),hSs,hSb,hSw,hSl]
      (refine aj ?_ ?_ ?_<;>simp only [aT,R8,Sb,SG,SH,bj,bg,AV.v.injEq,Value.int.injEq,Value.bool.injEq,Value.string.injEq,AV.vec.injEq,AV.ptr.injEq,true_or,or_true,false_or,or_false,aa.mk.injEq,forall_eq_apply_imp_iff,forall_eq,forall_eq',go_sem])
      all_goals first|rfl|exact cO _ _|trace_state
     ·have hbn:(pl k).bound≠[]:=by
       have:=hne (k - 1) (by omega)
       rwa [show k - 1+1=k by omega] at this
      have C:=Ih ps[ks[k]] (pl k).bound (pl k).waits hxp (by omega) hbn (by omega);have eSt:cW (CA ps[ks[k]] (pl k).bound (pl k).waits)=bH ps[ks[k]]++[aS (keysOf ps[ks[k]] (pl k).bound),aS ((bS ps[ks[k]] (pl k).bound).drop (pl k).bound.length), .aE 13 (((pl k).waits.filter (fun c=>aR c (bS ps[ks[k]] (pl k).bound))).map aK) ((pl k).waits.filter (fun c=>aR c (bS ps[ks[k]] (pl k).bound))).length]:=rfl
      have hSs:(pl (k+1)).steps.map cW=(pl k).steps.map cW++[cW (CA ps[ks[k]] (pl k).bound (pl k).waits)]:=by rw [hS];simp
      have hSb:(pl (k+1)).bound=bS ps[ks[k]] (pl k).bound:=by rw [hS]
      have hSw:(pl (k+1)).waits=leftOf ps[ks[k]] (pl k).bound (pl k).waits:=by rw [hS]
      have hSl:(pl (k+1)).steps.length=(pl k).steps.length+1:=by rw [hS];simp
      have hdl:(pl k).bound.length+((bS ps[ks[k]] (pl k).bound).drop (pl k).bound.length).length=(bS ps[ks[k]] (pl k).bound).length:=by
       have:=congrArg List.length hpre
       rw [List.length_append] at this;omega
      have hda:(pl k).bound.map encS++((bS ps[ks[k]] (pl k).bound).drop (pl k).bound.length).map encS=(bS ps[ks[k]] (pl k).bound).map encS:=by rw [<-List.map_append, <- hpre]
      clear hpre;rw [eSt] at hSs;simp only [bH,aS,SB,SA] at C hSs;simp only [bH] at eGp;generalize ks[k]=kk at *;generalize (pl k).waits.filter (fun c=>aR c (bS ps[kk] (pl k).bound))=cn at *;generalize leftOf ps[kk] (pl k).bound (pl k).waits=lf at *;generalize (bS ps[kk] (pl k).bound).drop (pl k).bound.length=bd at *;generalize bS ps[kk] (pl k).bound=nw at *;generalize keysOf ps[kk] (pl k).bound=ky at *;generalize ps[kk]=p at *
      have eNw:(nw.map encS).length=nw.length:=by simp
      have eNb:((pl k).bound.map encS).length=(pl k).bound.length:=by simp
      have eNd:(bd.map encS).length=bd.length:=by simp
      have eT:(bd.map encS).take bd.length=bd.map encS:=SX (by simp)
      have eNs:((pl k).steps.map cW).length=(pl k).steps.length:=by simp
      have eZ: ∀f l,bR f (List.map encS l)=List.map encS l:=fun f l=>bN _ _ (aD _ _);have eZc: ∀f l,bR f (List.map aK l)=List.map aK l:=fun f l=>bN _ _ (iH _ _);have eZe: ∀f l,bR f (List.map bn l)=List.map bn l:=fun f l=>bN _ _ (dJ _ _);simp only [if_neg hk0,SB,SA]
      repeat (first|(with_reducible first|refine af.up ?_|refine fun (K:AK) hK=> ?_|refine ag (by decide) ?_|(refine hK _ ?_;clear hK K))|simp only [go_sem,e1,eGk,eGp]|with_reducible refine wA ?_|(refine aI rfl ?_)|(refine aC rfl ?_)|clear hK K)
      refine ae.fr [2,5] C (by simp) ?_ ?_ ?_ ?_ ?_
      ·simp only [List.map_cons,Ti,RU,SC,Option.map_some,aa.bl,bR,bQ,AV.bl,eZc,eZ]
      ·simp only [bQ,AV.bl,eZe];rfl
      ·simp only [bw,AV.wf,dJ,SE];rfl
      ·intro j ob hj
       match j,hj with
       | 0,hj=>cases hj;simp only [dz,bw,AV.wf,iH,SE]
       | 1,hj=>cases hj;exact aD _ _
       | j+2,hj=>simp at hj
      repeat (first|(with_reducible first|refine af.up ?_|refine fun (K:AK) hK=> ?_|refine ag (by decide) ?_|(refine hK _ ?_;clear hK K))|simp only [go_sem,eZ,eZc,eZe,eNw,eNs,eNb,eNd,eT,hda,hdl]|with_reducible refine wA ?_|(refine aI rfl ?_)|(refine aC rfl ?_)|clear hK K)
      repeat (first|(with_reducible first|refine af.up ?_|refine fun (K:AK) hK=> ?_|refine ag (by decide) ?_|(refine hK _ ?_;clear hK K))|simp only [go_sem,eW]|with_reducible refine wA ?_|(refine aI rfl ?_)|(refine aC rfl ?_)|clear hK K)
      refine aQ.mk (k+1) hlt (by omega) ?_;simp only [if_neg (Nat.succ_ne_zero k),hSs,hSb,hSw,hSl]
      (refine aj ?_ ?_ ?_<;>simp only [aT,R8,Sb,SG,SH,bj,bg,AV.v.injEq,Value.int.injEq,Value.bool.injEq,Value.string.injEq,AV.vec.injEq,AV.ptr.injEq,true_or,or_true,false_or,or_false,aa.mk.injEq,forall_eq_apply_imp_iff,forall_eq,forall_eq',go_sem])
      all_goals first|rfl|exact cO _ _|trace_state
    ·have hkn:k=ks.length:=by omega
     have e1:decide ((k:Int)<(ks.length:Int))=false:=decide_eq_false (by omega);have eR:(pl k).steps.length=k:=hl.2.2
     by_cases hk0:k=0
     ·simp only [if_pos hk0,Tr]
      repeat ((fail_if_success (with_reducible refine br (i:=19) ?_));first|(with_reducible first|refine af.up ?_|refine fun (K:AK) hK=> ?_|refine ag (by decide) ?_|(refine hK _ ?_;clear hK K))|simp only [go_sem,e1]|with_reducible refine wA ?_|(refine aI rfl ?_)|(refine aC rfl ?_)|clear hK K)
      refine dU [8,10,12] [(4,1000),(6,1000)] (by decide+kernel) (by kernel_rfl) ?_
      repeat (first|(with_reducible first|refine af.up ?_|refine fun (K:AK) hK=> ?_|refine ag (by decide) ?_|(refine hK _ ?_;clear hK K))|simp only [go_sem]|with_reducible refine wA ?_|(refine aI rfl ?_)|(refine aC rfl ?_)|clear hK K)
      refine bc.one CR ?_
      repeat (first|(with_reducible first|refine af.up ?_|refine fun (K:AK) hK=> ?_|refine ag (by decide) ?_|(refine hK _ ?_;clear hK K))|simp only [go_sem]|with_reducible refine wA ?_|(refine aI rfl ?_)|(refine aC rfl ?_)|clear hK K)
      rw [<-hkn]
      (refine lR.of 40 rfl ?_;simp only [go_sem])
      all_goals first|rfl|exact cO _ _|trace_state
     ·simp only [if_neg hk0,SB,SA]
      repeat ((fail_if_success (with_reducible refine br (i:=19) ?_));first|(with_reducible first|refine af.up ?_|refine fun (K:AK) hK=> ?_|refine ag (by decide) ?_|(refine hK _ ?_;clear hK K))|simp only [go_sem,e1]|with_reducible refine wA ?_|(refine aI rfl ?_)|(refine aC rfl ?_)|clear hK K)
      refine dU [8,10,12] [(4,1000),(6,1000)] (by decide+kernel) (by kernel_rfl) ?_
      repeat (first|(with_reducible first|refine af.up ?_|refine fun (K:AK) hK=> ?_|refine ag (by decide) ?_|(refine hK _ ?_;clear hK K))|simp only [go_sem]|with_reducible refine wA ?_|(refine aI rfl ?_)|(refine aC rfl ?_)|clear hK K)
      refine bc.one CR ?_
      repeat (first|(with_reducible first|refine af.up ?_|refine fun (K:AK) hK=> ?_|refine ag (by decide) ?_|(refine hK _ ?_;clear hK K))|simp only [go_sem]|with_reducible refine wA ?_|(refine aI rfl ?_)|(refine aC rfl ?_)|clear hK K)
      rw [<-hkn]
      (refine lR.of 40 rfl ?_;simp only [go_sem])
      all_goals first|rfl|exact cO _ _|trace_state
  ·have f1:(nF q.au !=0)=true:=by simpa using hs
   have hR:gB q = .dA [.agg [.v (.slice none 0 0), .v (.slice none 0 0), .v (.int .i64 0), .v (.int .i64 0)], .v (.int .i64 (nF q.au))]:=by
    have e:gm q=nF q.au:=by rw [gm,if_neg (by simpa using hc)]
    rw [gB,e,if_pos hs]
   rw [hR];obtain ⟨ps,cs,rs,ra,sl⟩:=q;simp only [b8] at *
   (refine ah.enter Tryz.func9 rfl (by kernel_rfl) (by kernel_rfl) rfl (by first|rfl|(simp only [go_sem,SE,R0,R3])) (by first|rfl|(simp only [go_sem,SE,R0,R3])) ?_;simp only [Tryz.ntmps9,Tryz.results9,QI,QC,Nat.reduceAdd,Nat.reduceSub,SG,SH,SB,SA])
   repeat (first|(with_reducible first|refine af.up ?_|refine fun (K:AK) hK=> ?_|refine ag (by decide) ?_|(refine hK _ ?_;clear hK K))|simp only [go_sem]|with_reducible refine wA ?_|(refine aI rfl ?_)|(refine aC rfl ?_)|clear hK K)
   refine ae.one CQ ?_
   repeat (first|(with_reducible first|refine af.up ?_|refine fun (K:AK) hK=> ?_|refine ag (by decide) ?_|(refine hK _ ?_;clear hK K))|simp only [go_sem]|with_reducible refine wA ?_|(refine aI rfl ?_)|(refine aC rfl ?_)|clear hK K)
   refine ae.one CS ?_
   repeat (first|(with_reducible first|refine af.up ?_|refine fun (K:AK) hK=> ?_|refine ag (by decide) ?_|(refine hK _ ?_;clear hK K))|simp only [go_sem,f1]|with_reducible refine wA ?_|(refine aI rfl ?_)|(refine aC rfl ?_)|clear hK K)
   (refine lR.of 40 rfl ?_;simp only [go_sem])
 ·have f1:(iT q !=0)=true:=by simpa using hc
  have hR:gB q = .dA [.agg [.v (.slice none 0 0), .v (.slice none 0 0), .v (.int .i64 0), .v (.int .i64 0)], .v (.int .i64 (iT q))]:=by
   have e:gm q=iT q:=by rw [gm,if_pos hc]
   rw [gB,e,if_pos hc]
  rw [hR];obtain ⟨ps,cs,rs,ra,sl⟩:=q;simp only [b8] at *
  (refine ah.enter Tryz.func9 rfl (by kernel_rfl) (by kernel_rfl) rfl (by first|rfl|(simp only [go_sem,SE,R0,R3])) (by first|rfl|(simp only [go_sem,SE,R0,R3])) ?_;simp only [Tryz.ntmps9,Tryz.results9,QI,QC,Nat.reduceAdd,Nat.reduceSub,SG,SH,SB,SA])
  repeat (first|(with_reducible first|refine af.up ?_|refine fun (K:AK) hK=> ?_|refine ag (by decide) ?_|(refine hK _ ?_;clear hK K))|simp only [go_sem]|with_reducible refine wA ?_|(refine aI rfl ?_)|(refine aC rfl ?_)|clear hK K)
  refine ae.one CQ ?_
  repeat (first|(with_reducible first|refine af.up ?_|refine fun (K:AK) hK=> ?_|refine ag (by decide) ?_|(refine hK _ ?_;clear hK K))|simp only [go_sem,f1]|with_reducible refine wA ?_|(refine aI rfl ?_)|(refine aC rfl ?_)|clear hK K)
  (refine lR.of 40 rfl ?_;simp only [go_sem])
section
theorem E7 (x:Ex): ∀b:Nat,b<=300->ah Tryz.prog 36 [.agg (bn x), .v (.int .i64 b)] (.v (.int .i64 (pE x b:Nat))):=by
 induction x using Ex.ind with
 | h k s l ih=>
  intro b hb;simp only [bE,pE,Ex.kind,Ex.label,Ex.kids]
  (refine ah.enter Tryz.func36 rfl (by kernel_rfl) (by kernel_rfl) rfl (by first|rfl|(simp only [go_sem,SE,R0,R3])) (by first|rfl|(simp only [go_sem,SE,R0,R3])) ?_;simp only [Tryz.ntmps36,Tryz.results36,QI,QC,Nat.reduceAdd,Nat.reduceSub,SG,SH,SB,SA])
  repeat (first|(with_reducible first|refine af.up ?_|refine fun (K:AK) hK=> ?_|(refine hK _ ?_;clear hK K))|simp only [go_sem]|with_reducible refine wA ?_|clear hK K)
  refine dq (ι:=Nat) 7 (fun i=>[(5, .v (.int .i64 (pL (l.take i) b 1:Nat))),(6, .v (.int .i64 i))]) (fun i=>l.length - i) (fun i=>i<=l.length∧i+1<=pL (l.take i) b 1) 0 ⟨Nat.zero_le _,Nat.le_refl _⟩ ?_ ?_
  ·(refine aj ?_ ?_ ?_<;>simp only [aT,R8,Sb,SG,SH,bj,bg,AV.v.injEq,Value.int.injEq,Value.bool.injEq,Value.string.injEq,AV.vec.injEq,AV.ptr.injEq,true_or,or_true,false_or,or_false,aa.mk.injEq,forall_eq_apply_imp_iff,forall_eq,forall_eq',go_sem])
   exact ⟨rfl,rfl⟩
  rintro i ⟨hi,hin⟩ K hK;have hr:=uj (l.take i) b 1 (by omega)
  repeat (first|(with_reducible first|refine af.up ?_|refine fun (K:AK) hK=> ?_|(refine hK _ ?_;clear hK K))|simp only [go_sem]|with_reducible refine wA ?_|clear hK K)
  refine cQ.part (fun h=> ?_) (fun h=> ?_)
  ·have hlt:i<l.length:=by (try simp only [bne_iff_ne,ne_eq,bne_eq_false_iff_eq,beq_iff_eq,beq_eq_false_iff_ne,decide_eq_true_eq,decide_eq_false_iff_not,SI,Int.natCast_inj,SK,Int.ofNat_le] at h);omega
   by_cases hb2:pL (l.take i) b 1<=b
   ·have eW:=aM (k:=i) (by omega);have eG:=getD_map bn l i [] hlt;have HX:=ih l[i] (List.getElem_mem hlt) (b - pL (l.take i) b 1) (by omega);have eT:=An l b 1 i hlt hb2;have hr2:=qj l[i] (b - pL (l.take i) b 1);have hd:decide (((pL (l.take i) b 1:Nat):Int)<=(b:Int))=true:=decide_eq_true (by omega)
    have eB:IntKind.i64.wrap ((b:Int) - ((pL (l.take i) b 1:Nat):Int))=((b - pL (l.take i) b 1:Nat):Int):=by rw [fE (by omega) (by omega)];omega
    have eS:IntKind.i64.wrap (((pL (l.take i) b 1:Nat):Int)+((pE l[i] (b - pL (l.take i) b 1):Nat):Int))=((pL (l.take (i+1)) b 1:Nat):Int):=by rw [fE (by omega) (by omega),eT];omega
    simp only [bE] at HX eG
    repeat (first|(with_reducible first|refine af.up ?_|refine fun (K:AK) hK=> ?_|(refine hK _ ?_;clear hK K))|simp only [go_sem,hd,h,eG,bE,eB]|with_reducible refine wA ?_|clear hK K)
    refine ae.one HX ?_
    repeat (first|(with_reducible first|refine af.up ?_|refine fun (K:AK) hK=> ?_|(refine hK _ ?_;clear hK K))|simp only [go_sem,eS,eW]|with_reducible refine wA ?_|clear hK K)
    exact aQ.mk (i+1) ⟨by omega,by omega⟩ (by omega) (by (refine aj ?_ ?_ ?_<;>simp only [aT,R8,Sb,SG,SH,bj,bg,AV.v.injEq,Value.int.injEq,Value.bool.injEq,Value.string.injEq,AV.vec.injEq,AV.ptr.injEq,true_or,or_true,false_or,or_false,aa.mk.injEq,forall_eq_apply_imp_iff,forall_eq,forall_eq',go_sem]))
   ·have eT:=Am l b 1 i (by omega);have hd:decide (((pL (l.take i) b 1:Nat):Int)<=(b:Int))=false:=decide_eq_false (by omega)
    repeat (first|(with_reducible first|refine af.up ?_|refine fun (K:AK) hK=> ?_|(refine hK _ ?_;clear hK K))|simp only [go_sem,hd,h]|with_reducible refine wA ?_|clear hK K)
    rw [eT]
  ·have e1:l.take i=l:=by rw [show i=l.length by (try simp only [bne_iff_ne,ne_eq,bne_eq_false_iff_eq,beq_iff_eq,beq_eq_false_iff_ne,decide_eq_true_eq,decide_eq_false_iff_not,SI,Int.natCast_inj,SK,Int.ofNat_le] at h);omega,List.take_length]
   repeat (first|(with_reducible first|refine af.up ?_|refine fun (K:AK) hK=> ?_|(refine hK _ ?_;clear hK K))|simp only [go_sem,e1,h]|with_reducible refine wA ?_|clear hK K)
theorem Fu (q:fF) (hq:q.small):ah Tryz.prog 8 [.agg (b8 q)] (.v (.int .i64 (CB q:Nat))):=by
 obtain ⟨ps,cs,rs,ra,sl⟩:=q;obtain ⟨q1,q2,q3⟩:=hq;simp only [b8,CB] at q1 q2 q3 ⊢
 have w1:IntKind.i64.wrap ((ps.length:Int)+(cs.length:Int))=((ps.length+cs.length:Nat):Int):=by rw [fE (by omega) (by omega)];omega
 have w2:IntKind.i64.wrap (((ps.length+cs.length:Nat):Int)+(rs.length:Int))=((ps.length+cs.length+rs.length:Nat):Int):=by rw [fE (by omega) (by omega)];omega
 (refine ah.enter Tryz.func8 rfl (by kernel_rfl) (by kernel_rfl) rfl (by first|rfl|(simp only [go_sem,SE,R0,R3])) (by first|rfl|(simp only [go_sem,SE,R0,R3])) ?_;simp only [Tryz.ntmps8,Tryz.results8,QI,QC,Nat.reduceAdd,Nat.reduceSub,SG,SH,SB,SA])
 repeat (first|(with_reducible first|refine af.up ?_|refine fun (K:AK) hK=> ?_|(refine hK _ ?_;clear hK K))|simp only [go_sem,w1,w2]|with_reducible refine wA ?_|clear hK K)
 generalize hS:ps.length+cs.length+rs.length=S
 refine dq (ι:=Nat) 16 (fun i=>[(3, .v (.int .i64 (pQ (ps.take i) S:Nat))),(4, .v (.int .i64 i))]) (fun i=>ps.length - i) (fun i=>i<=ps.length) 0 (Nat.zero_le _) ?_ ?_
 ·(refine aj ?_ ?_ ?_<;>simp only [aT,R8,Sb,SG,SH,bj,bg,AV.v.injEq,Value.int.injEq,Value.bool.injEq,Value.string.injEq,AV.vec.injEq,AV.ptr.injEq,true_or,or_true,false_or,or_false,aa.mk.injEq,forall_eq_apply_imp_iff,forall_eq,forall_eq',go_sem])
  exact ⟨rfl,rfl⟩
 rintro i hi K hK;have hr:=IQ (ps.take i) S
 repeat (first|(with_reducible first|refine af.up ?_|refine fun (K:AK) hK=> ?_|(refine hK _ ?_;clear hK K))|simp only [go_sem]|with_reducible refine wA ?_|clear hK K)
 refine cQ.part (fun h=> ?_) (fun h=> ?_)
 ·have hlt:i<ps.length:=by (try simp only [decide_eq_true_eq,decide_eq_false_iff_not,SK] at h);omega
  by_cases hb2:pQ (ps.take i) S<=300
  ·have eW:=aM (k:=i) (by omega);have eG:=getD_map bH ps i [] hlt;have HX:=E7 ps[i].expr 300 (by omega);have eT:=Ap ps S i hlt hb2;have hr2:=qj ps[i].expr 300;have hd:decide (((pQ (ps.take i) S:Nat):Int)<=300)=true:=decide_eq_true (by omega)
   have eS:IntKind.i64.wrap (((pQ (ps.take i) S:Nat):Int)+((pE ps[i].expr 300:Nat):Int))=((pQ (ps.take (i+1)) S:Nat):Int):=by rw [fE (by omega) (by omega),eT];omega
   generalize ps[i]=pp at eG HX eS hr2 eT;simp only [bH,bE] at HX eG;have c3:((300:Nat):Int)=300:=rfl;rw [c3] at HX
   repeat (first|(with_reducible first|refine af.up ?_|refine fun (K:AK) hK=> ?_|(refine hK _ ?_;clear hK K))|simp only [go_sem,hd,h,eG,bE]|with_reducible refine wA ?_|clear hK K)
   refine ae.one HX ?_
   repeat (first|(with_reducible first|refine af.up ?_|refine fun (K:AK) hK=> ?_|(refine hK _ ?_;clear hK K))|simp only [go_sem,eS,eW]|with_reducible refine wA ?_|clear hK K)
   exact aQ.mk (i+1) (by omega) (by omega) (by (refine aj ?_ ?_ ?_<;>simp only [aT,R8,Sb,SG,SH,bj,bg,AV.v.injEq,Value.int.injEq,Value.bool.injEq,Value.string.injEq,AV.vec.injEq,AV.ptr.injEq,true_or,or_true,false_or,or_false,aa.mk.injEq,forall_eq_apply_imp_iff,forall_eq,forall_eq',go_sem]))
  ·have eT:=Ao ps S i (by omega);have hd:decide (((pQ (ps.take i) S:Nat):Int)<=300)=false:=decide_eq_false (by omega)
   repeat (first|(with_reducible first|refine af.up ?_|refine fun (K:AK) hK=> ?_|(refine hK _ ?_;clear hK K))|simp only [go_sem,hd,h]|with_reducible refine wA ?_|clear hK K)
   rw [hS,eT]
 ·have e1:ps.take i=ps:=by rw [show i=ps.length by (try simp only [decide_eq_true_eq,decide_eq_false_iff_not,SK] at h);omega,List.take_length]
  repeat (first|(with_reducible first|refine af.up ?_|refine fun (K:AK) hK=> ?_|(refine hK _ ?_;clear hK K))|simp only [go_sem,e1,h]|with_reducible refine wA ?_|clear hK K)
  rw [hS]
def e0:ByteArray:=⟨#[]⟩
def PZ (nm:ByteArray) (l r o:eX):List AV:=[.aE 8 [[.v (.string ⟨#[97]⟩), .v (.string ⟨#[98]⟩), .v (.bool false), .v (.string ⟨#[120]⟩), .v (.string nm), .v (.int .i64 0), .v (.string e0), .v (.slice none 0 0)]] 1, .aE 13 [aK ⟨3,l,r⟩] 1, .aE 6 [df o] 1, .v (.int .i64 5), .v (.int .i64 1)]
theorem Ah {s:ByteArray} (h:decide (s.size<=100)=true):xN s:=by unfold xN;have:=of_decide_eq_true h;omega
open Go.RowKit Go.Shelf
section
open Go.Maps Go.Sort Go.WideElems
def P5 (r:bL):List (Lit×DataW Unit):=r.map (fun p=>(.string p.1.data.toList, .lit (.int .i64 (p.2:Nat))))
def Pp (r s:bL):Bool:=decide (r.length=s.length)&&r.all (fun p=>look s p.1==some p.2)
end
structure Qr (A:FP):Prop extends Pg A where
 nd:A.ai.Nodup
 sz: ∀l∈A.ai,l.size<=20
 Qu:A.ai.length<=24
theorem sP: ∀ {l m:List ByteArray},lU l->lU m->(∀s,s∈l↔s∈m)->l=m
 | [],[],_,_,_=>rfl
 | [],b :: m,_,_,h=>absurd ((h b).2 (by simp)) (by simp)
 | a :: l,[],_,_,h=>absurd ((h a).1 (by simp)) (by simp)
 | a :: l,b :: m,h1,h2,h=>by
  rw [lU,List.pairwise_cons] at h1 h2;have irr: ∀x:List UInt8, ¬x<x:=fun x=>List.lt_irrefl _
  have hab:a=b:=by
   rcases Sj.1 ((h a).1 (by simp)) with e|ha
   ·exact e
   ·rcases Sj.1 ((h b).2 (by simp)) with e|hb
    ·exact e.symm
    ·exact absurd (List.lt_trans (h1.1 b hb) (h2.1 a ha)) (irr _)
  subst hab
  refine congrArg _ (sP h1.2 h2.2 fun s=>⟨fun hs=> ?_,fun hs=> ?_⟩)
  ·rcases Sj.1 ((h s).1 (RC _ hs)) with e|q
   ·subst e;exact absurd (h1.1 _ hs) (irr _)
   ·exact q
  ·rcases Sj.1 ((h s).2 (RC _ hs)) with e|q
   ·subst e;exact absurd (h2.1 _ hs) (irr _)
   ·exact q
theorem GW {x:Ex} {l:List ByteArray} (h:lU l) (hm: ∀s,s∈cu x↔s∈l):dX x=l:=sP (nk x) h fun s=>me.trans (hm s)
def D5:dK:=⟨3,⟨2,⟨#[101]⟩,⟨#[107]⟩,⟨0,0,⟨#[]⟩⟩⟩,⟨3,⟨#[]⟩,⟨#[]⟩,⟨1,3,⟨#[]⟩⟩⟩⟩
def qp:List bV:=[⟨⟨#[97]⟩,⟨#[98]⟩,true,⟨#[]⟩,⟨#[]⟩, .mk 1 ⟨#[120]⟩ []⟩,⟨⟨#[98]⟩,⟨#[99]⟩,false,⟨#[121]⟩,⟨#[101]⟩, .mk 0 ⟨#[]⟩ []⟩]
def mr:fF:=⟨qp,[D5],[⟨1,⟨#[97]⟩,⟨#[]⟩,⟨0,0,⟨#[]⟩⟩⟩],5,5⟩
def wS (f t:ByteArray) (h:Bool) (l n:ByteArray) (k:Int) (s:ByteArray):List AV:=[.v (.string f), .v (.string t), .v (.bool h), .v (.string l), .v (.string n), .v (.int .i64 k), .v (.string s), .v (.slice none 0 0)]
theorem wT (f t:ByteArray) (h:Bool) (l n:ByteArray) (k:Int) (s:ByteArray):Dn (wS f t h l n k s) (bH ⟨f,t,h,l,n, .mk k s []⟩):= .cons (.refl _) (.cons (.refl _) (.cons (.refl _) (.cons (.refl _) (.cons (.refl _) (.cons (.refl _) (.cons (.refl _) (.cons (.nil 3) .nil)))))))
def lI:List (List AV):=[wS ⟨#[97]⟩ ⟨#[98]⟩ true ⟨#[]⟩ ⟨#[]⟩ 1 ⟨#[120]⟩,wS ⟨#[98]⟩ ⟨#[99]⟩ false ⟨#[121]⟩ ⟨#[101]⟩ 0 ⟨#[]⟩]
def wY:List AV:=[.aE 8 lI 2, .aE 13 [aK D5] 1, .aE 6 [df ⟨1,⟨#[97]⟩,⟨#[]⟩,⟨0,0,⟨#[]⟩⟩⟩] 1, .v (.int .i64 5), .v (.int .i64 5)]
theorem Fg:Dn wY (b8 mr):=by
 refine .cons (.aE _ _ _ _ (by simp [lI,mr,qp]) (by simp [lI,mr,qp]) (fun i r r' h1 h2=> ?_) (fun i j r r' c c' h1 h2 h3 h4=> ?_)) (.cons (.refl _) (.cons (.refl _) (.cons (.refl _) (.cons (.refl _) .nil))))
 ·match i,h1,h2 with
  | 0,h1,h2=>cases h1;cases h2;rfl
  | 1,h1,h2=>cases h1;cases h2;rfl
  | i+2,h1,h2=>simp [lI] at h1
 ·match i,h1,h2 with
  | 0,h1,h2=>cases h1;cases h2;exact (wT _ _ _ _ _ _ _).2 j c c' h3 h4
  | 1,h1,h2=>cases h1;cases h2;exact (wT _ _ _ _ _ _ _).2 j c c' h3 h4
  | i+2,h1,h2=>simp [lI] at h1
theorem vO:ah Tryz.prog 28 [] (.agg wY):=by
 simp only [wY,lI,wS,D5,aK,df]
 (refine ah.enter Tryz.func28 rfl (by kernel_rfl) (by kernel_rfl) rfl (by first|rfl|(simp only [go_sem,SE,R0,R3])) (by first|rfl|(simp only [go_sem,SE,R0,R3])) ?_;simp only [Tryz.ntmps28,Tryz.results28,QI,QC,Nat.reduceAdd,Nat.reduceSub,SG,SH,SB,SA])
 repeat (first|(with_reducible first|refine af.up ?_|refine fun (K:AK) hK=> ?_|(refine hK _ ?_;clear hK K))|simp only [go_sem]|clear hK K)
 (refine lR.of 40 rfl ?_;simp only [go_sem])
theorem NX:dX (.mk 1 ⟨#[120]⟩ [])=[⟨#[120]⟩]:=GW (by simp [lU]) (fun s=>by simp [cu])
theorem JG:gm mr=0:=by
 have e1:iT mr=0:=by kernel_rfl
 have e2:qc (.mk 1 ⟨#[120]⟩ [])=0:=by rw [qc,NX];kernel_rfl
 have e3:nF qp=0:=by
  rw [qp,nF,e2,nF,nF];rfl
 rw [gm,if_neg (by simp [e1])];exact e3
theorem JH:(gC mr).map cW=[cW ⟨⟨⟨#[98]⟩,⟨#[99]⟩,false,⟨#[121]⟩,⟨#[101]⟩, .mk 0 ⟨#[]⟩ []⟩,[],[⟨#[98]⟩,⟨#[99]⟩,⟨#[101]⟩],[D5]⟩,cW ⟨⟨⟨#[97]⟩,⟨#[98]⟩,true,⟨#[]⟩,⟨#[]⟩, .mk 1 ⟨#[120]⟩ []⟩,[⟨#[98]⟩],[⟨#[97]⟩],[]⟩]:=by kernel_rfl
theorem JI:(gC mr).length=2:=by kernel_rfl
theorem Hz:mr.ok:=by
 refine ⟨fun p hp=> ?_,fun c hc=> ?_,fun x hx=> ?_⟩
 ·simp only [mr,qp,Sj,Sk,or_false] at hp
  rcases hp with rfl|rfl
  all_goals exact ⟨Ah (by rfl),Ah (by rfl),Ah (by rfl),Ah (by rfl),by rw [Ex.ok,nR];exact ⟨Ah (by rfl),trivial⟩⟩
 ·simp only [mr,Sj,Sk,or_false] at hc;subst hc;exact ⟨⟨Ah (by rfl),Ah (by rfl),Ah (by rfl)⟩,⟨Ah (by rfl),Ah (by rfl),Ah (by rfl)⟩⟩
 ·simp only [mr,Sj,Sk,or_false] at hx;subst hx;exact ⟨Ah (by rfl),Ah (by rfl),Ah (by rfl)⟩
theorem Bl:ah Tryz.prog 7 [] (.v (.bool true)):=by
 have L1:=vO
 have O2:=qt mr Hz (by decide) (by decide) (by decide) (fun p hp z hz=>by
  simp only [mr,qp,Sj,Sk,or_false] at hp
  rcases hp with rfl|rfl
  all_goals
   rw [aA,bM] at hz;simp only [Sj,Sk,or_false] at hz;subst hz
   exact Nat.zero_le _)
 rw [gB,if_neg (by rw [JG];simp),JH,JI] at O2;have O3:=O2.le (args':=[.agg wY]) (by rfl) (.cons Fg.agg .nil);have S1:=gn [⟨#[98]⟩,⟨#[99]⟩,⟨#[101]⟩] [⟨#[98]⟩,⟨#[99]⟩,⟨#[101]⟩];have S2:=gn [⟨#[98]⟩] [⟨#[98]⟩];have S3:=gn [⟨#[97]⟩] [⟨#[97]⟩];rw [show fp cd [⟨#[98]⟩,⟨#[99]⟩,⟨#[101]⟩] [⟨#[98]⟩,⟨#[99]⟩,⟨#[101]⟩]=true by kernel_rfl] at S1;rw [show fp cd [⟨#[98]⟩] [⟨#[98]⟩]=true by kernel_rfl] at S2;rw [show fp cd [⟨#[97]⟩] [⟨#[97]⟩]=true by kernel_rfl] at S3;simp only [cW,bH,aK,df,encS,aS,wY,lI,wS,D5,mr,Ex.kind,Ex.label,Ex.kids,List.map_cons,List.map_nil,QI,QC,SB,SA,Nat.reduceAdd] at L1 O3 S1 S2 S3
 (refine ah.enter Tryz.func7 rfl (by kernel_rfl) (by kernel_rfl) rfl (by first|rfl|(simp only [go_sem,SE,R0,R3])) (by first|rfl|(simp only [go_sem,SE,R0,R3])) ?_;simp only [Tryz.ntmps7,Tryz.results7,QI,QC,Nat.reduceAdd,Nat.reduceSub,SG,SH,SB,SA])
 repeat (first|(with_reducible first|refine af.up ?_|refine fun (K:AK) hK=> ?_|refine aB (by kernel_rfl) (by kernel_rfl) (by kernel_rfl) ?_|refine ak (by decide) ?_|refine aN ?_|refine aO ?_|(refine hK _ ?_;clear hK K))|simp only [go_sem]|with_reducible refine wA ?_|clear hK K)
 refine ae.one L1 ?_
 repeat (first|(with_reducible first|refine af.up ?_|refine fun (K:AK) hK=> ?_|refine aB (by kernel_rfl) (by kernel_rfl) (by kernel_rfl) ?_|refine ak (by decide) ?_|refine aN ?_|refine aO ?_|(refine hK _ ?_;clear hK K))|simp only [go_sem]|with_reducible refine wA ?_|clear hK K)
 refine ae.one O3 ?_
 have n2:(((2:Nat):Int) !=2)=false:=by decide
 have n0:(((0:Nat):Int)==0)=true:=by decide
 have n1:(((1:Nat):Int)==1)=true:=by decide
 repeat (first|(with_reducible first|refine af.up ?_|refine fun (K:AK) hK=> ?_|refine aB (by kernel_rfl) (by kernel_rfl) (by kernel_rfl) ?_|refine ak (by decide) ?_|refine aN ?_|refine aO ?_|(refine hK _ ?_;clear hK K))|simp only [go_sem,n2,n0,n1]|with_reducible refine wA ?_|clear hK K)
 refine ae.xL S1 8 rfl (by simp only [go_sem,Nat.reduceLT,Nat.reduceLeDiff,Nat.reduceEqDiff,SY,SZ,and_self]) rfl ?_
 repeat (first|(with_reducible first|refine af.up ?_|refine fun (K:AK) hK=> ?_|refine aB (by kernel_rfl) (by kernel_rfl) (by kernel_rfl) ?_|refine ak (by decide) ?_|refine aN ?_|refine aO ?_|(refine hK _ ?_;clear hK K))|simp only [go_sem,n2,n0,n1]|with_reducible refine wA ?_|clear hK K)
 refine ae.xL S2 8 rfl (by simp only [go_sem,Nat.reduceLT,Nat.reduceLeDiff,Nat.reduceEqDiff,SY,SZ,and_self]) rfl ?_
 repeat (first|(with_reducible first|refine af.up ?_|refine fun (K:AK) hK=> ?_|refine aB (by kernel_rfl) (by kernel_rfl) (by kernel_rfl) ?_|refine ak (by decide) ?_|refine aN ?_|refine aO ?_|(refine hK _ ?_;clear hK K))|simp only [go_sem,n2,n0,n1]|with_reducible refine wA ?_|clear hK K)
 refine ae.xL S3 8 rfl (by simp only [go_sem,Nat.reduceLT,Nat.reduceLeDiff,Nat.reduceEqDiff,SY,SZ,and_self]) rfl ?_
 repeat (first|(with_reducible first|refine af.up ?_|refine fun (K:AK) hK=> ?_|refine aB (by kernel_rfl) (by kernel_rfl) (by kernel_rfl) ?_|refine ak (by decide) ?_|refine aN ?_|refine aO ?_|(refine hK _ ?_;clear hK K))|simp only [go_sem,n2,n0,n1]|with_reducible refine wA ?_|clear hK K)
theorem rp (x y:bV):ah Tryz.prog 12 [.agg (bH x), .agg (bH y)] (.v (.bool (fB x y))):=
 .j7 (by kernel_rfl) (by simp only [bw,AV.wf,mF,SE]) (fun D nu w vargs h=>by
  obtain ⟨a,b,rfl,ha,hb⟩:=mv h;obtain ⟨ca,rfl,ka⟩:=lK ha;obtain ⟨cb,rfl,kb⟩:=lK hb;obtain ⟨k1,s1,l1,v1,e1,r1,rfl⟩:=uC x ca ka;obtain ⟨k2,s2,l2,v2,e2,r2,rfl⟩:=uC y cb kb
  exact oC x y k1 s1 l1 v1 k2 s2 l2 v2 w e1 r1 e2 r2)
theorem um (x:bV):fB x x=true:=(Ls x x).2 rfl
end
end Go.Proofs.YtjcobjgjjlahdaaGreatDoor
