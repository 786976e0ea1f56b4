/- 'kinescopelaw18.PlanOnce': for every input the call returns true and all read behind it as before. Three tables (two of math/bits, one of internal/strconv) are laid, and tied to the program's text. No condition beyond the row's own: the reading ends, and no text or slice that came in is longer than the form's reach. -/
import Derived.Test.YtjcobjgjjlahdaaGreatDoorJValN
import Derived.Test.YtjcobjgjjlahdaaGreatDoorRows
import Derived.Test.YtjcobjgjjlahdaaGreatDoorCards
import Derived.Test.YtjcobjgjjlahdaaGreatDoorTie
import Derived.Test.YtjcobjgjjlahdaaGreatDoorJOrdB
import Derived.WalkKit
import Derived.ProofKit
import Derived.OpenShut
import Derived.Stop.Joined
import Derived.SevenTiedAt
import Derived.Carry
set_option linter.unusedSimpArgs false
set_option linter.unusedVariables false
set_option maxRecDepth 100000
set_option maxHeartbeats 16000000
open Bool renaming and_self -> Tg, and_true -> SA, true_and -> SD
open List renaming length_cons -> Rg, length_nil -> Q9, replicate_succ -> Ti, replicate_zero -> Tj, cons_append -> Tl, nil_append -> Tm, foldl_cons -> SI, foldl_nil -> SL
open Option.some renaming inj -> Q4
namespace Go.Proofs.YtjcobjgjjlahdaaGreatDoor
open Go.RowKit
section
theorem rz (q:fg) (hq:q.small) (oq:q.ok):ag Tryz.prog 6 [.agg (cd q)] (.v (.bool true)):=by
 have S1:=FY q hq;have W:=BC
 by_cases hz:Df q<=300
 ·have hd:decide ((300:Int)<((Df q:Nat):Int))=false:=decide_eq_false (by omega);obtain ⟨hz1,hz2⟩:=F8 hz;have OF:=xq q oq (by omega) (by omega) (by omega) hz2;have OO:=Lk q oq (by omega) (by omega) (by omega);have ST:=zI q oq (by omega)
  by_cases hc:fR q=0
  ·rw [if_pos hc] at OO
   by_cases hs:nL q.aj=0
   ·have e0:gH q=0:=by rw [gH,if_neg (by simpa using hc)];exact hs
    have hR:jT q = .dC [.agg [.aC 11 ((cm q).map bH) (cm q).length, .aC 6 (q.ret.map cz) q.ret.length, .v (.int .i64 q.range), .v (.int .i64 q.kz)], .v (.int .i64 0)]:=by rw [jT,if_neg (by simpa using e0)]
    rw [hR] at OF;clear hR ST;have hOl:=xa q.aj;have hSl:=CV q
    have hnum:bj (cm q)=(dq q.aj (br q.aj) q.conds (br q.aj).length).bound:=by
     have:=jq q.aj (br q.aj) q.conds _ (Nat.le_refl _)
     rw [kn] at this;exact this
    have hcl:(bj (cm q)).length<=1000000:=by
     rw [hnum]
     have:=(im q.aj (br q.aj) q.conds _ (Nat.le_refl _)).1
     omega
    have hmany:=E8 hc;have hok:=Kv q;have hmle:=H8 (cm q);have hlt: ∀k∈br q.aj,k<q.aj.length:=fun k hk=>mA hk;have SO:=zH q.ret q.ret;rw [(tK _ _ (fun x _ y=>LX x y)).2 rfl] at SO;have TP:=xi (cm q) q.ret q.range q.kz;have SQ:=qG (cm q) q.ret q.range q.kz (by omega);have CO:=fun n:Nat=>BV (cm q) q.ret q.range q.kz (n:Int) (by omega) hcl;simp only [Int.toNat_natCast] at CO
    have namesC:=fun (ks:List Nat) (hk: ∀k∈ks,k<q.aj.length) (hl:ks.length<=1000000)=>zZ q (gf:=73) (caps:=[.vp [.aC 1 (au ks) ks.length]]) (gh ks) (show q.aj.length<=1000000 by omega) (by simpa [gh] using hl) (fun k hk'=>by
      simp only [gh,List.mem_map] at hk';obtain ⟨j,hj,rfl⟩:=hk'
      have:=hk j hj
      omega) (by rw [show (gh ks).map encI=au ks by simp [gh,au,encI]];exact oA ks hl) (by simp only [go_sem,bF,Tg])
    have hstat: ∀i,i<(br q.aj).length-> ∃d,(cm q)[i]? = some d∧pd q i d (bj ((cm q).take i)) (bj ((cm q).take (i+1)))∧bj ((cm q).take (i+1))=bA q.aj (gh ((br q.aj).take (i+1))):=hok
    have hpat: ∀i d,(cm q)[i]? = some d->pd q i d (bj ((cm q).take i)) (bj ((cm q).take (i+1)))-> ∃h:i<(br q.aj).length, ∃h2:(br q.aj)[i]<q.aj.length,q.aj[(br q.aj)[i]]=d.pat:=fun i d _ ok=>by
     obtain ⟨h,e⟩:=ok.pat;have h2:=hlt _ (List.getElem_mem h);exact ⟨h,h2,by rw [e,gU h2]⟩
    clear hok hnum
    have hmc: ∀i,dJ ((cm q).take i)<=1000:=fun i=>by have:=hmle i;omega
    have hct: ∀i,(bj ((cm q).take i)).length<=1000000:=fun i=>by
     have:bj (cm q)=bj ((cm q).take i)++bj ((cm q).drop i):=by rw [bj,bj,bj, <- List.flatMap_append,List.take_append_drop]
     have:=congrArg List.length this
     rw [List.length_append] at this;omega
    generalize cm q=st at *;have hstep: ∀i,i<(br q.aj).length-> ∃d,st[i]? = some d∧pd q i d (bj (st.take i)) (bj (st.take (i+1)))∧bj (st.take (i+1))=bA q.aj (gh ((br q.aj).take (i+1))):=hstat;have Bj:= @pd.keys;have hwY:dA 0 (st.map bH)=true:=aO _ _;obtain ⟨ps,cs,rs,ra,sl⟩:=q;simp only at hOl hSl hmany hlt hpat hstep hmle hmc hct;simp only [cd] at *;generalize hL:br ps=L at OO hOl hSl hlt hpat hstep
    have eLn:(au L).length=L.length:=by simp [au]
    have hln:((st.length:Int) !=(L.length:Int))=false:=by simp [hSl]
    have hmn:((dJ st:Int)==(cs.length:Int))=true:=by simp [hmany]
    simp only [aK] at CO namesC
    (refine ag.enter Tryz.func6 rfl (by kernel_rfl) (by kernel_rfl) rfl (by first|rfl|(simp only [go_sem,Tg,SA,SD])) (by first|rfl|(simp only [go_sem,Tg,SA,SD])) ?_;simp only [Tryz.ntmps6,Tryz.results6,Rg,Q9,Nat.reduceAdd,Nat.reduceSub,Ti,Tj,Tl,Tm])
    repeat (first|(with_reducible first|refine af.up ?_|refine fun (K:AK) hK=> ?_|refine wD ?_|(refine hK _ ?_;clear hK K))|simp only [go_sem]|with_reducible refine wA ?_|clear hK K)
    refine ab.one W ?_
    repeat (first|(with_reducible first|refine af.up ?_|refine fun (K:AK) hK=> ?_|refine wD ?_|(refine hK _ ?_;clear hK K))|simp only [go_sem]|with_reducible refine wA ?_|clear hK K)
    refine ab.one S1 ?_
    repeat (first|(with_reducible first|refine af.up ?_|refine fun (K:AK) hK=> ?_|refine wD ?_|(refine hK _ ?_;clear hK K))|simp only [go_sem,hd,Go.undef]|with_reducible refine wA ?_|clear hK K)
    refine ab.one OF ?_
    repeat (first|(with_reducible first|refine af.up ?_|refine fun (K:AK) hK=> ?_|refine wD ?_|(refine hK _ ?_;clear hK K))|simp only [go_sem]|with_reducible refine wA ?_|clear hK K)
    refine ab.one OO ?_
    repeat (first|(with_reducible first|refine af.up ?_|refine fun (K:AK) hK=> ?_|refine wD ?_|(refine hK _ ?_;clear hK K))|simp only [go_sem,hln,bne_self_eq_false,Go.undef]|with_reducible refine wA ?_|clear hK K)
    refine ab.one SO ?_
    repeat (first|(with_reducible first|refine af.up ?_|refine fun (K:AK) hK=> ?_|refine wD ?_|(refine hK _ ?_;clear hK K))|simp only [go_sem,Go.undef]|with_reducible refine wA ?_|clear hK K)
    refine ab.one TP ?_
    repeat (first|(with_reducible first|refine af.up ?_|refine fun (K:AK) hK=> ?_|refine wD ?_|(refine hK _ ?_;clear hK K))|simp only [go_sem]|with_reducible refine wA ?_|clear hK K)
    refine fP SQ 8 (fun k=>[some ⟨26,5,false,[[.aC 8 (ps.map bM) ps.length, .aC 13 (cs.map aH) cs.length, .aC 6 (rs.map cz) rs.length, .v (.int .i64 ra), .v (.int .i64 sl)]]⟩,some ⟨4,1,false,[[.v (.bool false)]]⟩,some ⟨31,4,false,[[.aC 11 (st.map bH) st.length, .aC 6 (rs.map cz) rs.length, .v (.int .i64 ra), .v (.int .i64 sl)]]⟩,some ⟨75,1,false,[[.aC 1 (au L) L.length]]⟩,some ⟨3,1,false,[[.v (.int .i64 (dJ (st.take k):Nat))]]⟩]) (fun _=>True) trivial ?_ ?_ ?_ (by kernel_rfl) (by kernel_rfl) ?_ ?_ ?_
    ·repeat (first|(with_reducible first|refine af.up ?_|refine fun (K:AK) hK=> ?_|refine wD ?_|(refine hK _ ?_;clear hK K))|simp only [go_sem]|with_reducible refine wA ?_|clear hK K)
    ·simp only [bn,AV.wf,aO,mN,Tg]
    ·(refine ak ?_ ?_ ?_<;>simp only [aR,SI,SL,Ti,Tj,aX,aW,AV.v.injEq,Value.int.injEq,Value.bool.injEq,Value.string.injEq,AV.vec.injEq,AV.ptr.injEq,true_or,or_true,false_or,or_false,aa.mk.injEq,forall_eq_apply_imp_iff,forall_eq,forall_eq',go_sem])
     all_goals first|rfl|exact aO _ _|exact ⟨aO _ _,rfl⟩|trace_state
    ·intro x hx;obtain ⟨p,_,rfl⟩:=List.mem_map.1 hx
     rfl
    ·intro k x _ hx
     obtain ⟨hk,rfl⟩: ∃h:k<st.length,x=[.v (.int .i64 (k:Nat)), .agg (bH st[k])]:=by
      have h1:=(List.getElem?_eq_some_iff.1 hx).1;rw [iX] at h1;rw [pK h1] at hx;exact ⟨h1,(Q4 hx).symm⟩
     clear hx;obtain ⟨d,hd1,ok,hnm⟩:=hstep k (by omega);obtain ⟨hkL,hkp,hpd⟩:=hpat k d hd1 ok
     have hdk:st[k]=d:=by rw [List.getElem?_eq_getElem hk] at hd1;exact Q4 hd1
     have hm1:=Cq st hk;rw [hdk] at hm1 ⊢;have hm2:=hmc k;have hm3:=hmc (k+1);have C1:=CO k;have C2:=CO (k+1);have hah:=hct k;have hnw:=hct (k+1);have eW:=aD (k:=k) (by omega)
     have eLt:(L.take (k+1)).length=k+1:=by simp;omega
     have N1:=(namesC (L.take (k+1)) (fun j hj=>hlt j (List.mem_of_mem_take hj)) (by omega)).MU;have V:=Di (L.take (k+1));rw [<-hnm] at N1;rw [eLt] at V N1;have V:=V.le (args':=[.aC 1 (au L) (k+1)]) (by simp only [go_sem]) (.cons (Eu (by omega)) .nil)
     have eGl:(au L).getD k []=[.v (.int .i64 (L[k]:Nat))]:=by rw [au,getD_map _ L k [] hkL]
     have eGp:=getD_map bM ps L[k] [] hkp;rw [hpd] at eGp;have P1:=rI d.pat d.pat;rw [uJ] at P1;have T1:=iH (bj (st.take (k+1))) (bj (st.take (k+1)));rw [pq] at T1;have F1:=jv (bj (st.take k)) d.pat.aR hah;have F2:=jv d.keys d.pat.aR (by have:=ok.Nh;omega);have F3:=jv (bj (st.take k)) d.pat.to hah;have F4:=jv d.keys d.pat.to (by have:=ok.Nh;omega);rw [ok.aR] at F2;rw [ok.to] at F4;have hfw:=ok.Nh;have okk:=ok.keys;have okc:=ok.conds;have okb:=ok.binds;clear ok hnm hd1 hdk hpd hstep hpat namesC CO hmc hct hcl SQ TP SO OF OO
     have eS:IntKind.i64.wrap (((dJ (st.take k):Nat):Int)+((d.conds.length:Nat):Int))=((dJ (st.take (k+1)):Nat):Int):=by rw [fK (by omega) (by omega)];omega
     simp only [bH,bM,aK,Tl,Tm] at *;generalize L[k]=lk at *;generalize bj (st.take k)=ah at *;generalize bj (st.take (k+1))=nw at *;generalize hasB ah d.pat.aR=b1 at *;generalize hasB ah d.pat.to=b2 at *;generalize dJ (st.take k)=m0 at *;generalize dJ (st.take (k+1))=m1 at *
     repeat (first|(with_reducible first|refine af.up ?_|refine fun (K:AK) hK=> ?_|refine wD ?_|(refine hK _ ?_;clear hK K))|simp only [go_sem]|with_reducible refine wA ?_|clear hK K)
     refine ab.one C1 ?_
     repeat (first|(with_reducible first|refine af.up ?_|refine fun (K:AK) hK=> ?_|refine wD ?_|(refine hK _ ?_;clear hK K))|simp only [go_sem,eW]|with_reducible refine wA ?_|clear hK K)
     refine ab.one C2 ?_
     repeat (first|(with_reducible first|refine af.up ?_|refine fun (K:AK) hK=> ?_|refine wD ?_|(refine hK _ ?_;clear hK K))|simp only [go_sem,eGl,eGp,eLn]|with_reducible refine wA ?_|clear hK K)
     refine aQ.one P1 ?_
     repeat (first|(with_reducible first|refine af.up ?_|refine fun (K:AK) hK=> ?_|refine wD ?_|(refine hK _ ?_;clear hK K))|simp only [go_sem,eLn,eW,Go.undef]|with_reducible refine wA ?_|clear hK K)
     refine aQ.one V ?_
     repeat (first|(with_reducible first|refine af.up ?_|refine fun (K:AK) hK=> ?_|refine wD ?_|(refine hK _ ?_;clear hK K))|simp only [go_sem,Go.undef]|with_reducible refine wA ?_|clear hK K)
     refine aQ.one N1 ?_
     repeat (first|(with_reducible first|refine af.up ?_|refine fun (K:AK) hK=> ?_|refine wD ?_|(refine hK _ ?_;clear hK K))|simp only [go_sem,Go.undef]|with_reducible refine wA ?_|clear hK K)
     refine aQ.one T1 ?_
     repeat (first|(with_reducible first|refine af.up ?_|refine fun (K:AK) hK=> ?_|refine wD ?_|(refine hK _ ?_;clear hK K))|simp only [go_sem,Go.undef]|with_reducible refine wA ?_|clear hK K)
     refine ct (ι:=Nat) 15 (fun j=>[(12, .v (.int .i64 j))]) (fun j=>d.keys.length - j) (fun j=>j<=d.keys.length) 0 (Nat.zero_le _) ?_ ?_
     ·(refine ak ?_ ?_ ?_<;>simp only [aR,SI,SL,Ti,Tj,aX,aW,AV.v.injEq,Value.int.injEq,Value.bool.injEq,Value.string.injEq,AV.vec.injEq,AV.ptr.injEq,true_or,or_true,false_or,or_false,aa.mk.injEq,forall_eq_apply_imp_iff,forall_eq,forall_eq',go_sem])
      all_goals first|rfl|exact aO _ _|trace_state
     ·intro j hj K hK;have eWj:=aD (k:=j) (by omega)
      by_cases hjl:j<d.keys.length
      ·have e1:decide ((j:Int)<(d.keys.length:Int))=true:=decide_eq_true (by omega);obtain ⟨k1,k2,k3⟩:=okk j hjl;have eGk:=getD_map encS d.keys j [] hjl;have H1:=jv ah d.keys[j] (by omega);have H2:=sr d.keys j (by omega) d.keys[j] (by omega);rw [k1] at H1;rw [k3] at H2;simp only [encS] at eGk;simp only [aK] at H1
       have eKl:(d.keys.map encS).length=d.keys.length:=by simp
       generalize d.keys[j]=s at *;cases f1:(s.toList==d.pat.aR.toList)
       rotate_left
       ·repeat (first|(with_reducible first|refine af.up ?_|refine fun (K:AK) hK=> ?_|refine wD ?_|(refine hK _ ?_;clear hK K))|simp only [go_sem,e1,eGk,Go.undef]|with_reducible refine wA ?_|clear hK K)
        refine aQ.one H1 ?_
        repeat (first|(with_reducible first|refine af.up ?_|refine fun (K:AK) hK=> ?_|refine wD ?_|(refine hK _ ?_;clear hK K))|simp only [go_sem,f1,eGk,eKl,Go.undef]|with_reducible refine wA ?_|clear hK K)
        refine aQ.one H2 ?_
        repeat (first|(with_reducible first|refine af.up ?_|refine fun (K:AK) hK=> ?_|refine wD ?_|(refine hK _ ?_;clear hK K))|simp only [go_sem,eWj,Go.undef]|with_reducible refine wA ?_|clear hK K)
        exact aM.mk (j+1) (by omega) (by omega) (by (refine ak ?_ ?_ ?_<;>simp only [aR,SI,SL,Ti,Tj,aX,aW,AV.v.injEq,Value.int.injEq,Value.bool.injEq,Value.string.injEq,AV.vec.injEq,AV.ptr.injEq,true_or,or_true,false_or,or_false,aa.mk.injEq,forall_eq_apply_imp_iff,forall_eq,forall_eq',go_sem]);exact aO _ _)
       ·have f2:(s.toList==d.pat.to.toList)=true:=by
         rcases k2 with k2|k2
         ·rw [k2] at f1;simp at f1
         ·rw [k2];simp
        repeat (first|(with_reducible first|refine af.up ?_|refine fun (K:AK) hK=> ?_|refine wD ?_|(refine hK _ ?_;clear hK K))|simp only [go_sem,e1,eGk,Go.undef]|with_reducible refine wA ?_|clear hK K)
        refine aQ.one H1 ?_
        repeat (first|(with_reducible first|refine af.up ?_|refine fun (K:AK) hK=> ?_|refine wD ?_|(refine hK _ ?_;clear hK K))|simp only [go_sem,f1,f2,eGk,eKl,Go.undef]|with_reducible refine wA ?_|clear hK K)
        refine aQ.one H2 ?_
        repeat (first|(with_reducible first|refine af.up ?_|refine fun (K:AK) hK=> ?_|refine wD ?_|(refine hK _ ?_;clear hK K))|simp only [go_sem,eWj,Go.undef]|with_reducible refine wA ?_|clear hK K)
        exact aM.mk (j+1) (by omega) (by omega) (by (refine ak ?_ ?_ ?_<;>simp only [aR,SI,SL,Ti,Tj,aX,aW,AV.v.injEq,Value.int.injEq,Value.bool.injEq,Value.string.injEq,AV.vec.injEq,AV.ptr.injEq,true_or,or_true,false_or,or_false,aa.mk.injEq,forall_eq_apply_imp_iff,forall_eq,forall_eq',go_sem]);exact aO _ _)
      ·have e1:decide ((j:Int)<(d.keys.length:Int))=false:=decide_eq_false (by omega)
       have hje:j=d.keys.length:=by omega
       repeat (first|(with_reducible first|refine af.up ?_|refine fun (K:AK) hK=> ?_|refine wD ?_|(refine hK _ ?_;clear hK K))|simp only [go_sem,e1,Go.undef]|with_reducible refine wA ?_|clear hK K)
       refine aQ.one F1 ?_
       repeat (first|(with_reducible first|refine af.up ?_|refine fun (K:AK) hK=> ?_|refine wD ?_|(refine hK _ ?_;clear hK K))|simp only [go_sem,Go.undef]|with_reducible refine wA ?_|clear hK K)
       refine aQ.one F2 ?_
       repeat (first|(with_reducible first|refine af.up ?_|refine fun (K:AK) hK=> ?_|refine wD ?_|(refine hK _ ?_;clear hK K))|simp only [go_sem,bne_self_eq_false,Go.undef]|with_reducible refine wA ?_|clear hK K)
       refine aQ.one F3 ?_
       repeat (first|(with_reducible first|refine af.up ?_|refine fun (K:AK) hK=> ?_|refine wD ?_|(refine hK _ ?_;clear hK K))|simp only [go_sem,bne_self_eq_false,Go.undef]|with_reducible refine wA ?_|clear hK K)
       refine aQ.one F4 ?_
       repeat (first|(with_reducible first|refine af.up ?_|refine fun (K:AK) hK=> ?_|refine wD ?_|(refine hK _ ?_;clear hK K))|simp only [go_sem,bne_self_eq_false,Go.undef]|with_reducible refine wA ?_|clear hK K)
       refine ct (ι:=Nat) 15 (fun j=>[(13, .v (.int .i64 j))]) (fun j=>d.conds.length - j) (fun j=>j<=d.conds.length) 0 (Nat.zero_le _) ?_ ?_
       ·(refine ak ?_ ?_ ?_<;>simp only [aR,SI,SL,Ti,Tj,aX,aW,AV.v.injEq,Value.int.injEq,Value.bool.injEq,Value.string.injEq,AV.vec.injEq,AV.ptr.injEq,true_or,or_true,false_or,or_false,aa.mk.injEq,forall_eq_apply_imp_iff,forall_eq,forall_eq',go_sem])
        all_goals first|rfl|exact aO _ _|trace_state
       ·intro j hj K hK;have eWj:=aD (k:=j) (by omega)
        by_cases hjl:j<d.conds.length
        ·have e1:decide ((j:Int)<(d.conds.length:Int))=true:=decide_eq_true (by omega);obtain ⟨k1,k2⟩:=okc _ (List.getElem_mem hjl);have eGk:=getD_map aH d.conds j [] hjl;have R1:=iE d.conds[j] nw;have R2:=iE d.conds[j] ah;rw [k1] at R1;simp only [aK,aH] at R1 R2;simp only [aH] at eGk;generalize d.conds[j]=c at *
         by_cases hk0:0<k
         ·have e2:decide ((0:Int)<(k:Int))=true:=decide_eq_true (by omega);rw [k2 hk0] at R2
          repeat (first|(with_reducible first|refine af.up ?_|refine fun (K:AK) hK=> ?_|refine wD ?_|(refine hK _ ?_;clear hK K))|simp only [go_sem,e1,eGk,Go.undef]|with_reducible refine wA ?_|clear hK K)
          refine ab.one R1 ?_
          repeat (first|(with_reducible first|refine af.up ?_|refine fun (K:AK) hK=> ?_|refine wD ?_|(refine hK _ ?_;clear hK K))|simp only [go_sem,e2,eGk,Go.undef]|with_reducible refine wA ?_|clear hK K)
          refine ab.one R2 ?_
          repeat (first|(with_reducible first|refine af.up ?_|refine fun (K:AK) hK=> ?_|refine wD ?_|(refine hK _ ?_;clear hK K))|simp only [go_sem,eWj,Go.undef]|with_reducible refine wA ?_|clear hK K)
          exact aM.mk (j+1) (by omega) (by omega) (by (refine ak ?_ ?_ ?_<;>simp only [aR,SI,SL,Ti,Tj,aX,aW,AV.v.injEq,Value.int.injEq,Value.bool.injEq,Value.string.injEq,AV.vec.injEq,AV.ptr.injEq,true_or,or_true,false_or,or_false,aa.mk.injEq,forall_eq_apply_imp_iff,forall_eq,forall_eq',go_sem]);exact aO _ _)
         ·have e2:decide ((0:Int)<(k:Int))=false:=decide_eq_false (by omega)
          repeat (first|(with_reducible first|refine af.up ?_|refine fun (K:AK) hK=> ?_|refine wD ?_|(refine hK _ ?_;clear hK K))|simp only [go_sem,e1,eGk,Go.undef]|with_reducible refine wA ?_|clear hK K)
          refine ab.one R1 ?_
          repeat (first|(with_reducible first|refine af.up ?_|refine fun (K:AK) hK=> ?_|refine wD ?_|(refine hK _ ?_;clear hK K))|simp only [go_sem,e2,eGk,eWj,Go.undef]|with_reducible refine wA ?_|clear hK K)
          exact aM.mk (j+1) (by omega) (by omega) (by (refine ak ?_ ?_ ?_<;>simp only [aR,SI,SL,Ti,Tj,aX,aW,AV.v.injEq,Value.int.injEq,Value.bool.injEq,Value.string.injEq,AV.vec.injEq,AV.ptr.injEq,true_or,or_true,false_or,or_false,aa.mk.injEq,forall_eq_apply_imp_iff,forall_eq,forall_eq',go_sem]);exact aO _ _)
        ·have e1:decide ((j:Int)<(d.conds.length:Int))=false:=decide_eq_false (by omega)
         repeat (first|(with_reducible first|refine af.up ?_|refine fun (K:AK) hK=> ?_|refine wD ?_|(refine hK _ ?_;clear hK K))|simp only [go_sem,e1,eS,Go.undef]|with_reducible refine wA ?_|clear hK K)
         refine ct (ι:=Nat) 15 (fun j=>[(14, .v (.int .i64 j))]) (fun j=>d.binds.length - j) (fun j=>j<=d.binds.length) 0 (Nat.zero_le _) ?_ ?_
         ·(refine ak ?_ ?_ ?_<;>simp only [aR,SI,SL,Ti,Tj,aX,aW,AV.v.injEq,Value.int.injEq,Value.bool.injEq,Value.string.injEq,AV.vec.injEq,AV.ptr.injEq,true_or,or_true,false_or,or_false,aa.mk.injEq,forall_eq_apply_imp_iff,forall_eq,forall_eq',go_sem])
          all_goals first|rfl|exact aO _ _|trace_state
         ·intro j hj K hK;have eWj:=aD (k:=j) (by omega)
          by_cases hjl:j<d.binds.length
          ·have e1:decide ((j:Int)<(d.binds.length:Int))=true:=decide_eq_true (by omega);obtain ⟨k1,k2⟩:=okb j hjl;have eGk:=getD_map encS d.binds j [] hjl;have H1:=jv ah d.binds[j] (by omega);have H2:=sr d.binds j (by omega) d.binds[j] (by omega);rw [k1] at H1;rw [k2] at H2;simp only [encS] at eGk;simp only [aK] at H1
           have eKl:(d.binds.map encS).length=d.binds.length:=by simp
           generalize d.binds[j]=s at *
           repeat (first|(with_reducible first|refine af.up ?_|refine fun (K:AK) hK=> ?_|refine wD ?_|(refine hK _ ?_;clear hK K))|simp only [go_sem,e1,eGk,Go.undef]|with_reducible refine wA ?_|clear hK K)
           refine aQ.one H1 ?_
           repeat (first|(with_reducible first|refine af.up ?_|refine fun (K:AK) hK=> ?_|refine wD ?_|(refine hK _ ?_;clear hK K))|simp only [go_sem,eGk,eKl,Go.undef]|with_reducible refine wA ?_|clear hK K)
           refine aQ.one H2 ?_
           repeat (first|(with_reducible first|refine af.up ?_|refine fun (K:AK) hK=> ?_|refine wD ?_|(refine hK _ ?_;clear hK K))|simp only [go_sem,eWj,Go.undef]|with_reducible refine wA ?_|clear hK K)
           exact aM.mk (j+1) (by omega) (by omega) (by (refine ak ?_ ?_ ?_<;>simp only [aR,SI,SL,Ti,Tj,aX,aW,AV.v.injEq,Value.int.injEq,Value.bool.injEq,Value.string.injEq,AV.vec.injEq,AV.ptr.injEq,true_or,or_true,false_or,or_false,aa.mk.injEq,forall_eq_apply_imp_iff,forall_eq,forall_eq',go_sem]);exact aO _ _)
          ·have e1:decide ((j:Int)<(d.binds.length:Int))=false:=decide_eq_false (by omega)
           repeat (first|(with_reducible first|refine af.up ?_|refine fun (K:AK) hK=> ?_|refine wD ?_|(refine hK _ ?_;clear hK K))|simp only [go_sem,e1,Go.undef]|with_reducible refine wA ?_|clear hK K)
           (refine ak ?_ ?_ ?_<;>simp only [aR,SI,SL,Ti,Tj,aX,aW,AV.v.injEq,Value.int.injEq,Value.bool.injEq,Value.string.injEq,AV.vec.injEq,AV.ptr.injEq,true_or,or_true,false_or,or_false,aa.mk.injEq,forall_eq_apply_imp_iff,forall_eq,forall_eq',go_sem])
           all_goals first|rfl|exact aO _ _|exact ⟨aO _ _,rfl⟩|trace_state
    ·intro _;rw [iX];have e1:st.take st.length=st:=List.take_length
     repeat (first|(with_reducible first|refine af.up ?_|refine fun (K:AK) hK=> ?_|refine wD ?_|(refine hK _ ?_;clear hK K))|simp only [go_sem,e1,hmn]|with_reducible refine wA ?_|clear hK K)
     trace_state
   ·have e0:gH q=nL q.aj:=by rw [gH,if_neg (by simpa using hc)]
    have f1:(nL q.aj !=0)=true:=by simpa using hs
    rw [jT,e0,if_pos hs] at OF;obtain ⟨ps,cs,rs,ra,sl⟩:=q;simp only [cd] at *;generalize nL ps=se at *
    (refine ag.enter Tryz.func6 rfl (by kernel_rfl) (by kernel_rfl) rfl (by first|rfl|(simp only [go_sem,Tg,SA,SD])) (by first|rfl|(simp only [go_sem,Tg,SA,SD])) ?_;simp only [Tryz.ntmps6,Tryz.results6,Rg,Q9,Nat.reduceAdd,Nat.reduceSub,Ti,Tj,Tl,Tm])
    repeat (first|(with_reducible first|refine af.up ?_|refine fun (K:AK) hK=> ?_|refine wD ?_|(refine hK _ ?_;clear hK K))|simp only [go_sem]|with_reducible refine wA ?_|clear hK K)
    refine ab.one W ?_
    repeat (first|(with_reducible first|refine af.up ?_|refine fun (K:AK) hK=> ?_|refine wD ?_|(refine hK _ ?_;clear hK K))|simp only [go_sem]|with_reducible refine wA ?_|clear hK K)
    refine ab.one S1 ?_
    repeat (first|(with_reducible first|refine af.up ?_|refine fun (K:AK) hK=> ?_|refine wD ?_|(refine hK _ ?_;clear hK K))|simp only [go_sem,hd,Go.undef]|with_reducible refine wA ?_|clear hK K)
    refine ab.one OF ?_
    repeat (first|(with_reducible first|refine af.up ?_|refine fun (K:AK) hK=> ?_|refine wD ?_|(refine hK _ ?_;clear hK K))|simp only [go_sem]|with_reducible refine wA ?_|clear hK K)
    refine ab.one OO ?_
    repeat (first|(with_reducible first|refine af.up ?_|refine fun (K:AK) hK=> ?_|refine wD ?_|(refine hK _ ?_;clear hK K))|simp only [go_sem,f1,Go.undef]|with_reducible refine wA ?_|clear hK K)
    refine ab.one ST ?_
    repeat (first|(with_reducible first|refine af.up ?_|refine fun (K:AK) hK=> ?_|refine wD ?_|(refine hK _ ?_;clear hK K))|simp only [go_sem,beq_self_eq_true,Go.undef]|with_reducible refine wA ?_|clear hK K)
    all_goals trace_state
  ·have f1:(fR q !=0)=true:=by simpa using hc
   have e0:gH q=fR q:=by rw [gH,if_pos (by simpa using hc)]
   rw [jT,e0,if_pos hc] at OF;rw [if_neg hc] at OO;generalize fR q=ce at *;obtain ⟨ps,cs,rs,ra,sl⟩:=q;simp only [cd] at *
   (refine ag.enter Tryz.func6 rfl (by kernel_rfl) (by kernel_rfl) rfl (by first|rfl|(simp only [go_sem,Tg,SA,SD])) (by first|rfl|(simp only [go_sem,Tg,SA,SD])) ?_;simp only [Tryz.ntmps6,Tryz.results6,Rg,Q9,Nat.reduceAdd,Nat.reduceSub,Ti,Tj,Tl,Tm])
   repeat (first|(with_reducible first|refine af.up ?_|refine fun (K:AK) hK=> ?_|refine wD ?_|(refine hK _ ?_;clear hK K))|simp only [go_sem]|with_reducible refine wA ?_|clear hK K)
   refine ab.one W ?_
   repeat (first|(with_reducible first|refine af.up ?_|refine fun (K:AK) hK=> ?_|refine wD ?_|(refine hK _ ?_;clear hK K))|simp only [go_sem]|with_reducible refine wA ?_|clear hK K)
   refine ab.one S1 ?_
   repeat (first|(with_reducible first|refine af.up ?_|refine fun (K:AK) hK=> ?_|refine wD ?_|(refine hK _ ?_;clear hK K))|simp only [go_sem,hd,Go.undef]|with_reducible refine wA ?_|clear hK K)
   refine ab.one OF ?_
   repeat (first|(with_reducible first|refine af.up ?_|refine fun (K:AK) hK=> ?_|refine wD ?_|(refine hK _ ?_;clear hK K))|simp only [go_sem]|with_reducible refine wA ?_|clear hK K)
   refine ab.one OO ?_
   repeat (first|(with_reducible first|refine af.up ?_|refine fun (K:AK) hK=> ?_|refine wD ?_|(refine hK _ ?_;clear hK K))|simp only [go_sem,f1,beq_self_eq_true,Go.undef]|with_reducible refine wA ?_|clear hK K)
   all_goals trace_state
 ·have hd:decide ((300:Int)<((Df q:Nat):Int))=true:=decide_eq_true (by omega);simp only [cd] at *
  (refine ag.enter Tryz.func6 rfl (by kernel_rfl) (by kernel_rfl) rfl (by first|rfl|(simp only [go_sem,Tg,SA,SD])) (by first|rfl|(simp only [go_sem,Tg,SA,SD])) ?_;simp only [Tryz.ntmps6,Tryz.results6,Rg,Q9,Nat.reduceAdd,Nat.reduceSub,Ti,Tj,Tl,Tm])
  repeat (first|(with_reducible first|refine af.up ?_|refine fun (K:AK) hK=> ?_|refine wD ?_|(refine hK _ ?_;clear hK K))|simp only [go_sem]|with_reducible refine wA ?_|clear hK K)
  refine ab.one W ?_
  repeat (first|(with_reducible first|refine af.up ?_|refine fun (K:AK) hK=> ?_|refine wD ?_|(refine hK _ ?_;clear hK K))|simp only [go_sem]|with_reducible refine wA ?_|clear hK K)
  refine ab.one S1 ?_
  repeat (first|(with_reducible first|refine af.up ?_|refine fun (K:AK) hK=> ?_|refine wD ?_|(refine hK _ ?_;clear hK K))|simp only [go_sem,hd,Go.undef]|with_reducible refine wA ?_|clear hK K)
open Go.ChangeShapes Go.WideShapes Go.ChangeAt Go.WideMaps Go.WideElems Go.RowKit
namespace planOnce
theorem own:ownKnob Tryz.prog.godebug=none:=by kernel_rfl
theorem laid:laidOutB Tryz.prog=true:=by kernel_rfl
theorem Ep (H:Type) (enc:TypeId×Value->H) (W:World) (args:Array Value) (ds gs:List (DataW H)) (before:List MemPlace) (base:Nat)
  (hval: ∀(j:Nat) t v,Tryz.f6.params[j]? = some t->args[j]? = some v->Value.okWide Tryz.prog W .any base t v)
  (hW:DataW.Whole enc Tryz.prog Tryz.f6.params.toList Rows.planOnceSpec.vars false W args.toList ds gs before)
  (hsz:(DataW.weightsEach Tryz.prog (Tryz.f6.params.toList++Rows.planOnceSpec.plain.varTypes Tryz.prog) (ds++gs)).all (· <= reachBytes)=true)
  (hL:laidMetH Tryz.prog Rows.planOnceRow.laid W) :
  Calls Tryz.prog 6 args W fun e W'=> ∃v,e = .returned v∧Rows.planOnceSpec.post enc Tryz.prog Tryz.f6 false true false false W args v W':=by
 have hW':=hW;have hlt:=hW.lt;obtain ⟨p,q,hA,hV,rfl,hfz,hnd⟩:=hW;rw [Tryz.params6] at hA hsz hval;obtain ⟨v0,d0,rfl,rfl,h0⟩:=trodAll_one hA;obtain ⟨rfl,rfl⟩:=trodVars_none hV
 have z0: ∀k∈d0.weights Tryz.prog 26,k<=reachBytes:=fun k hk=>by
  have:=List.all_eq_true.1 hsz k (DataW.weights_mem_each (j:=0) (t:=26) (d:=d0) rfl rfl k hk)
  simpa using this
 obtain ⟨q0,c0,rfl,r0,s0,o0⟩:=Ge h0 z0
 refine ((rz q0 s0 o0).KD (w:=W) (vargs:= #[.agg c0.toArray]) ⟨rfl,fun i c x hc hx=> ?_⟩ (B8 hL)).mono fun e W' he=> ?_
 ·match i,hc,hx with
  | 0,hc,hx=>cases hc;cases hx;exact Ki (fun _ _=>trivial) r0
  | i+1,hc,hx=>simp at hc
 obtain ⟨rfl,hb⟩:=he
 refine ⟨_,rfl,_,_,_,[],p,[],hW', ?_, ?_,rfl,hb.frame _,fun h=>by cases h⟩
 ·exact trodAll_mk1 (shut_bool Tryz.underlying4 _)
 ·exact trodAll_mk1 (Below.trod laid (by kernel_rfl) (of_decide_eq_true (by kernel_rfl)) h0 hb (fun x hx=>hlt x (by simp [hx])))
theorem Et (os:Os) (args:Array Value):laidMetH Tryz.prog Rows.planOnceRow.laid ((World.doorLaid Tryz.prog 400 os).forCall (fun _ _=>0) ⟨#[],args,[]⟩).memory:=
 laidMetH_of_parts3 (fuel:=8) (laidMet_of_run' 8 (by kernel_rfl) (by kernel_rfl)) (by kernel_rfl) (by kernel_rfl)
theorem lifted (os:Os) (started:os.Started) (H:Type) (enc:TypeId×Value->H) :
  ReturnsInHanded {} Tryz.checked os 6 .any (fun w args=>(Rows.planOnceSpec.pre enc Tryz.prog Tryz.f6 [] false w args∧laidMetH Tryz.prog Rows.planOnceRow.laid w)∧sizedMet enc Tryz.prog Tryz.f6 (OpenSpec.ofChange Rows.planOnceSpec) false w args)
   (Rows.planOnceSpec.post enc Tryz.prog Tryz.f6 false true false false):=by
 refine returnsInHanded_of_change_and (C:=Tryz.checked) (X:=fun w _=>laidMetH Tryz.prog Rows.planOnceRow.laid w) (fun _ _ _ hh h=>h.of_heap hh) own started (by kernel_rfl) Tryz.func6
  (ChangeSpec.witness_shaped (enc:=enc) (C:=Tryz.checked) (os:=os) (X:=fun w _=>laidMetH Tryz.prog Rows.planOnceRow.laid w) false (World.doorLaid Tryz.prog 400 os) #[.agg #[.slice none 0 0, .slice none 0 0, .slice none 0 0, .int .i64 0, .int .i64 0]] 8 rfl (World.shaped_of_RefB (by kernel_rfl) (by kernel_rfl)) (by kernel_rfl) (by kernel_rfl) (by kernel_rfl) (Et os _)) ?_
 intro W base args ds gs before hval hW _ hsz hL _;exact Ep H enc W args ds gs before base hval hW hsz hL
theorem over:Rows.planOnceRow.holds Tryz.pinned (OpenSpec.ofChange Rows.planOnceSpec):=
 OpenClaim.holds_of_wide 6 Tryz.f6 rfl rfl rfl rfl rfl rfl rfl ⟨rfl,rfl,rfl,rfl,rfl⟩ rfl rfl rfl rfl rfl (by kernel_rfl) Tryz.func6 (by kernel_rfl)
  (of_decide_eq_true (by kernel_rfl)) (by unfold Func.isWrapper;first|(rw [if_pos (by decide+kernel)];kernel_rfl)|(rw [if_neg (by decide+kernel)];exact ⟨rfl,rfl⟩))
  (fun os started H enc _=>lifted os started H enc)
theorem proved:Rows.PlanOnceCardSaid:=
 Claim7.holds_tied_plain_at .later [] [.data, .data, .data] true _ false
  over (fun _ h=>by cases h) (by kernel_rfl) (fun _ h=>by cases h) planOnce_row_tie rfl ⟨rfl,rfl⟩ (by kernel_rfl) rfl
  (fun f fn hf hfn=>by
   obtain rfl:f=6:=(Q4 ((show Tryz.prog.funcNamed "kinescope/kinescopelaw18.PlanOnce" = some 6 by kernel_rfl).symm.trans hf)).symm
   obtain rfl:fn=Tryz.f6:=(Q4 (Tryz.func6.symm.trans hfn)).symm
   exact ⟨by kernel_rfl,fun j t ht=>by
    rw [Tryz.params6] at ht
    have hm:t∈[26]:=by simpa using Array.mem_of_getElem? ht
    have hall:([26].all fun u=> !Tryz.prog.wantsStandIn u)=true:=by kernel_rfl
    exact (show Tryz.prog.wantsStandIn t=false by simpa using List.all_eq_true.1 hall t hm)⟩)
  (by kernel_rfl)
end planOnce
theorem planOnce_holds:Rows.PlanOnceCardSaid:=planOnce.proved
#print axioms planOnce_holds
end
end Go.Proofs.YtjcobjgjjlahdaaGreatDoor
