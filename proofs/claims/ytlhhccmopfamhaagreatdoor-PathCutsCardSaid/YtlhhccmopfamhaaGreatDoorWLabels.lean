/- texts of one claim, one behind the other. -/
import Derived.Test.YtlhhccmopfamhaaGreatDoorWJoin
import Derived.Test.YtlhhccmopfamhaaGreatDoorWAbsCut
import Derived.Test.YtlhhccmopfamhaaGreatDoorWBest
import Derived.Test.YtlhhccmopfamhaaGreatDoorWHeapP
import Derived.Test.YtlhhccmopfamhaaGreatDoorWRelG
import Derived.Test.YtlhhccmopfamhaaGreatDoorWPart
import Derived.Shelf.Slices.CompactS
import Derived.Lib.RowBridge
set_option linter.unusedSimpArgs false
set_option linter.unusedVariables false
set_option maxRecDepth 100000
set_option maxHeartbeats 16000000
open Bool renaming and_self -> UM, not_eq_eq_eq_not -> UR, eq_false_or_eq_true -> UT
open Int renaming natCast_inj -> VF, ofNat_lt -> VE, ofNat_le -> VG
open List renaming length_cons -> Tc, length_nil -> S6, replicate_succ -> UN, replicate_zero -> UO, cons_append -> UP, nil_append -> UQ, set_cons_zero -> UK, set_cons_succ -> UJ, foldl_cons -> UG, foldl_nil -> UH, take_zero -> VK, getD_eq_getElem?_getD -> T3, getElem?_eq_getElem -> Tn, length_map -> T1, map_append -> Vu, map_cons -> Vd, map_nil -> Vq, length_append -> Tb, push_toArray -> VL, drop_succ_cons -> VM, drop_zero -> VN, take_succ_cons -> VO, getElem?_map -> Tq, length_replicate -> VP, take_succ_eq_append_getElem -> VB, getElem_mem -> Uy, getElem?_set_ne -> Tv, getElem?_eq_some_iff -> S7, getElem?_set_self -> Tw, length_singleton -> Vx, getElem?_toArray -> Tp, getElem?_cons_zero -> Ud, getElem?_cons_succ -> UD, zip_cons_cons -> UE, zip_nil_left -> UF, setIfInBounds_toArray -> UI
open Nat renaming lt_add_one -> Vm, zero_lt_one -> Vn, zero_le -> Te, zero_lt_succ -> VQ, le_refl -> SY, le_succ -> VR
open Option renaming map_some -> TG
open Array renaming getElem?_eq_some_iff -> S5
namespace Go.Proofs.YtlhhccmopfamhaaGreatDoor
open Go.RowKit
theorem uW {l:List ByteArray} (hn:l.Nodup) {i:Nat} (h:i<l.length):l[i]∉l.take i:=fun q=>by
 obtain ⟨j,hj,e⟩:=List.mem_take_iff_getElem.1 q;exact List.pairwise_iff_getElem.1 hn j i (by omega) h (by omega) e
theorem FM:cf []=[]:=rfl
def BX (a:List Nat):List AV:=[.aI 1 (aM a) a.length]
theorem vC (n:Nat) (a:List Nat):ba n (BX a)=true:=by simp only [BX,ba,AV.wf,iX,UM]
@[go_sem] theorem OB (n:Nat) (l:List (List Nat)):bQ n (l.map BX)=true:=bg _ (vC n) _
def pe:Option mj->AV
 | some st=> .ct [.vp (gV st.rows st.ends), .v (.bool true)]
 | none=> .ct [.v (.pointer none), .v (.bool false)]
theorem G3 (o:Option mj):(pe o).wf 0=true:=by
 cases o with
 | none=>rfl
 | some st=>simp only [pe,AV.wf,ba,gV,nn,nk,UM]
theorem lU (m:BitVec 32):(∀n∈ai m,n<100)∧(ai m).length<=1000:=by
 refine ⟨fun n hn=> ?_, ?_⟩
 ·rw [ai,List.mem_filter,List.mem_range] at hn;omega
 ·have:=List.length_filter_le m.getLsbD (List.range 32)
  rw [List.length_range] at this;rw [ai];omega
theorem zK {s:bE} {a:List Nat} (h:Made (bC s) a):(∀n∈a,n<100)∧a.length<=1000:=by
 rcases h.2 with rfl|⟨cur,l,rfl⟩
 ·simp
 ·exact lU _
def fR (s:bE) (st:mj):List (Option aa):=[some ⟨56,1,false,[[.aI 1 (aM (ai s.la)) (ai s.la).length]]⟩,some ⟨163,0,false,DR (st.all.map iC)⟩,none,none,some ⟨56,1,true,st.all.map BX⟩,some ⟨123,2,false,[[.vec 6 st.rows.length, .vec 7 st.rows.length]]⟩,some ⟨164,1,true,st.rows.map (fun r=>[.mp (cf r)])⟩,some ⟨4,1,true,st.ends.map (fun b=>[.v (.bool b)])⟩]
theorem Ly {s:bE} (ok:vS s) (ae:List ByteArray) (hn:ae.Nodup) (hl:ae.length<=1000) (hb:(ai s.la).length<=1000):af Tryz.prog 84 [.vp (fO s),ez ae] (pe (rz (bC s) s.em (ai s.la) ae)):=by
 have CL:=Ja s ok.len;have CE:=FP s ok.len;have CK0:=J5 [0] (by simp) (by simp);have e0:aM [0]=[[.v (.int .i64 0)]]:=rfl;rw [e0] at CK0;simp only [Tc,S6,Nat.reduceAdd] at CK0
 have hA:ba 0 [AV.vp (fO s),ez ae]=true:=by simp only [ez,ba,AV.wf,vE,dc,UM]
 have hF:=G3 (rz (bC s) s.em (ai s.la) ae);generalize hrv:pe (rz (bC s) s.em (ai s.la) ae)=rv at hF ⊢
 (refine af.nL Tryz.func84 rfl (by kernel_rfl) (by kernel_rfl) rfl hA hF ?_;simp only [Tryz.ntmps84,Tryz.results84,Tc,S6,Nat.reduceAdd,Nat.reduceSub,UN,UO,UP,UQ])
 repeat (first|(with_reducible first|refine ag.up ?_|refine fun (K:AK) hK=> ?_|(refine hK _ ?_;clear hK K))|simp only [go_sem]|with_reducible refine wA ?_|clear hK K)
 refine ab.one CL ?_
 repeat (first|(with_reducible first|refine ag.up ?_|refine fun (K:AK) hK=> ?_|(refine hK _ ?_;clear hK K))|simp only [go_sem]|with_reducible refine wA ?_|clear hK K)
 refine ab.E9 CK0 8 rfl (by simp only [go_sem,Nat.reduceLT,Nat.reduceLeDiff,Nat.reduceEqDiff,Vm,Vn,and_self]) rfl ?_
 repeat ((fail_if_success (with_reducible refine b5 (i:=5) ?_));first|(with_reducible first|refine ag.up ?_|refine fun (K:AK) hK=> ?_|(refine hK _ ?_;clear hK K))|simp only [go_sem]|with_reducible refine wA ?_|clear hK K)
 refine ck (kH (k:=4) (i:=0) (j:=0) (by decide) rfl (Nat.zero_lt_succ _) rfl rfl rfl rfl rfl) (by kernel_rfl) ?_;simp only [UK,UJ,Tc,S6,Nat.reduceAdd,UP,UQ];refine ck (eJ (k:=5) (i:=0) (j:=0) 164 1 (by decide) rfl (by decide) rfl rfl) (by kernel_rfl) ?_;simp only [UK,UJ,Tc,S6,Nat.reduceAdd,UP,UQ];refine ck (eJ (k:=5) (i:=0) (j:=1) 4 1 (by decide) rfl (by decide) rfl rfl) (by kernel_rfl) ?_;simp only [UK,UJ,Tc,S6,Nat.reduceAdd,UP,UQ]
 repeat (first|(with_reducible first|refine ag.up ?_|refine fun (K:AK) hK=> ?_|(refine hK _ ?_;clear hK K))|simp only [go_sem]|with_reducible refine wA ?_|clear hK K)
 refine bW (ι:=mj) 10 (fun st=>[(8, .vec 4 st.all.length),(10, .v (.int .i64 st.rows.length))]) (fR s) (fun st=>257 - st.rows.length) (fun st=>BV ae st∧(∀a∈st.all,Made (bC s) a)∧pe (mZ (bC s) s.em (ai s.la) ae (257 - st.rows.length) st)=rv) s0
  ⟨Lw ae,fun a ha=>by simp only [s0,List.mem_singleton] at ha;subst ha;exact ⟨by simp, .inl rfl⟩,hrv⟩ ?_ ?_
 ·simp only [fR,s0]
  (refine aq ?_ ?_ ?_<;>simp only [aG,UG,UH,UN,UO,bd,bj,AV.v.injEq,Value.int.injEq,Value.bool.injEq,Value.string.injEq,AV.vec.injEq,AV.ptr.injEq,true_or,or_true,false_or,or_false,aa.mk.injEq,forall_eq_apply_imp_iff,forall_eq,forall_eq',go_sem])
  ·rfl
  ·exact ⟨rfl,rfl,vC _ _⟩
 ·rintro st ⟨hok,hmade,hrun⟩ K hK;have h257:=hok.max;have hel:=hok.ends;simp only [fR]
  repeat (first|(with_reducible first|refine ag.up ?_|refine fun (K:AK) hK=> ?_|(refine hK _ ?_;clear hK K))|simp only [go_sem]|with_reducible refine wA ?_|clear hK K)
  refine fU.part (fun h=> ?_) (fun h=> ?_)
  ·have hlt:st.rows.length<st.all.length:=by (try simp only [bne_iff_ne,ne_eq,bne_eq_false_iff_eq,beq_iff_eq,beq_eq_false_iff_ne,decide_eq_true_eq,decide_eq_false_iff_not,UR,VF,VE,VG] at h);omega
   rw [show 257 - st.rows.length=(256 - st.rows.length)+1 by have:=hok.le;omega,mZ,if_pos hlt] at hrun
   repeat (first|(with_reducible first|refine ag.up ?_|refine fun (K:AK) hK=> ?_|(refine hK _ ?_;clear hK K))|simp only [go_sem,h]|with_reducible refine wA ?_|clear hK K)
   obtain ⟨hcm,hcl⟩:=zK (hmade _ (bM (d:=[]) hlt));rw [<-dL] at hcm hcl
   refine bW (ι:=Nat) 38 (fun i=>[(8, .vec 4 (gh (bC s) (dL st) st.all (ae.take i)).1.length),(13, .undef),(14, .undef),(15, .undef),(16, .undef),(37, .v (.int .i64 i))]) (fun i=>fR s { st with all:=(gh (bC s) (dL st) st.all (ae.take i)).1 }++[some ⟨164,0,false,cf (gh (bC s) (dL st) st.all (ae.take i)).2⟩]) (fun i=>ae.length - i) (fun i=>i<=ae.length) 0 (Nat.zero_le _) ?_ ?_
   ·simp only [fR,VK,gh,UH,FM,UP,UQ]
    (refine aq ?_ ?_ ?_<;>simp only [aG,UG,UH,UN,UO,bd,bj,AV.v.injEq,Value.int.injEq,Value.bool.injEq,Value.string.injEq,AV.vec.injEq,AV.ptr.injEq,true_or,or_true,false_or,or_false,aa.mk.injEq,forall_eq_apply_imp_iff,forall_eq,forall_eq',go_sem])
    all_goals rfl
   ·intro i hi K hK;obtain ⟨k1,k2,k3,k4,k5,t,k6⟩:=vn (bC s) (cur:=dL st) hok.nd (ae.take i);have hmd:=tD (bC s) hmade (cur:=dL st) (ae.take i);have hlk: ∀l,l∉ae.take i->look (gh (bC s) (dL st) st.all (ae.take i)).2 l=none:=fun l hl=>nZ.2 fun q=>hl (k5.subset q)
    rcases hRi:gh (bC s) (dL st) st.all (ae.take i) with ⟨al,ro⟩
    rw [hRi] at k1 k2 k3 k4 k5 k6 hmd hlk;simp only at k1 k2 k3 k4 k5 k6 hmd hlk
    have hal:al.length<=2000:=by rw [List.length_take] at k4;omega
    simp only [fR,UP,UQ]
    repeat (first|(with_reducible first|refine ag.up ?_|refine fun (K:AK) hK=> ?_|(refine hK _ ?_;clear hK K))|simp only [go_sem]|with_reducible refine wA ?_|clear hK K)
    refine fU.part (fun h2=> ?_) (fun h2=> ?_)
    ·have hli:i<ae.length:=by (try simp only [bne_iff_ne,ne_eq,bne_eq_false_iff_eq,beq_iff_eq,beq_eq_false_iff_ne,decide_eq_true_eq,decide_eq_false_iff_not,UR,VF,VE,VG] at h2);omega
     have eW:=aD (k:=i) (by omega);have eG:=getD_map encS ae i [] hli
     have eC:(al.map BX).getD st.rows.length []=[.aI 1 (aM (dL st)) (dL st).length]:=by
      have hx:al.getD st.rows.length []=dL st:=by rw [k6,cw hlt];rfl
      rw [T3,List.getElem?_map,Tn (by omega)];rw [T3,Tn (by omega)] at hx;simp only [TG,Option.getD_some] at hx ⊢;rw [hx];rfl
     have hN:=lj (bC s) (dL st) st.all (ae.take i) ae[i];rw [<-List.take_succ_eq_append_getElem hli,hRi,Bq] at hN;have CS:=JH ok (dL st) ae[i] (by omega);obtain ⟨ts,tl⟩:=lU (gQ s (gm s (jM (dL st))) ae[i]);have CKy:=J5 (bC s (dL st) ae[i]) ts (by have:(bC s (dL st) ae[i]).length<=1000:=tl;omega);have tl':(bC s (dL st) ae[i]).length<=1000:=tl;generalize hto:bC s (dL st) ae[i]=to at *;simp only [encS] at eG
     repeat (first|(with_reducible first|refine ag.up ?_|refine fun (K:AK) hK=> ?_|(refine hK _ ?_;clear hK K))|simp only [go_sem,eG,eC,h2]|with_reducible refine wA ?_|clear hK K)
     refine ab.one CS ?_
     repeat (first|(with_reducible first|refine ag.up ?_|refine fun (K:AK) hK=> ?_|(refine hK _ ?_;clear hK K))|simp only [go_sem]|with_reducible refine wA ?_|clear hK K)
     refine fU.part (fun h3=> ?_) (fun h3=> ?_)
     ·have hz:to=[]:=List.eq_nil_of_length_eq_zero (by (try simp only [bne_iff_ne,ne_eq,bne_eq_false_iff_eq,beq_iff_eq,beq_eq_false_iff_ne,decide_eq_true_eq,decide_eq_false_iff_not,UR,VF,VE,VG] at h3);omega);rw [if_pos hz] at hN
      repeat (first|(with_reducible first|refine ag.up ?_|refine fun (K:AK) hK=> ?_|(refine hK _ ?_;clear hK K))|simp only [go_sem,eW]|with_reducible refine wA ?_|clear hK K)
      refine aP.mk (i+1) (by omega) (by omega) ?_;rw [hN];simp only [fR,UP,UQ]
      (refine aq ?_ ?_ ?_<;>simp only [aG,UG,UH,UN,UO,bd,bj,AV.v.injEq,Value.int.injEq,Value.bool.injEq,Value.string.injEq,AV.vec.injEq,AV.ptr.injEq,true_or,or_true,false_or,or_false,aa.mk.injEq,forall_eq_apply_imp_iff,forall_eq,forall_eq',go_sem])
     ·have hz: ¬to=[]:=fun e=>by subst e;simp at h3
      rw [if_neg hz] at hN;have eA:=Ei (iC to) (al.map iC)
      repeat (first|(with_reducible first|refine ag.up ?_|refine fun (K:AK) hK=> ?_|(refine hK _ ?_;clear hK K))|simp only [go_sem]|with_reducible refine wA ?_|clear hK K)
      refine ab.one CKy ?_
      cases hp:pos (al.map iC) (iC to) with
      | some k=>
       rw [hp] at hN eA;simp only [TG] at eA hN;have eS:=nE ae[i] k ro (hlk _ (uW hn hli))
       repeat (first|(with_reducible first|refine ag.up ?_|refine fun (K:AK) hK=> ?_|(refine hK _ ?_;clear hK K))|simp only [go_sem,eA,eS,eW]|with_reducible refine wA ?_|clear hK K)
       refine aP.mk (i+1) (by omega) (by omega) ?_;rw [hN];simp only [fR,UP,UQ]
       (refine aq ?_ ?_ ?_<;>simp only [aG,UG,UH,UN,UO,bd,bj,AV.v.injEq,Value.int.injEq,Value.bool.injEq,Value.string.injEq,AV.vec.injEq,AV.ptr.injEq,true_or,or_true,false_or,or_false,aa.mk.injEq,forall_eq_apply_imp_iff,forall_eq,forall_eq',go_sem])
      | none=>
       rw [hp] at hN eA;simp only [Option.map_none] at eA hN;have eS:=nE ae[i] al.length ro (hlk _ (uW hn hli));have eK:=Ek (iC to) (al.map iC) hp;rw [T1] at eK
       repeat (first|(with_reducible first|refine ag.up ?_|refine fun (K:AK) hK=> ?_|(refine hK _ ?_;clear hK K))|simp only [go_sem,eA,eS,eW]|with_reducible refine wA ?_|clear hK K)
       refine ab.one CKy ?_
       repeat (first|(with_reducible first|refine ag.up ?_|refine fun (K:AK) hK=> ?_|(refine hK _ ?_;clear hK K))|simp only [go_sem,eK,eS,eW]|with_reducible refine wA ?_|clear hK K)
       refine aP.mk (i+1) (by omega) (by omega) ?_;rw [hN];simp only [fR,UP,UQ,Vu,Vd,Vq,Tb,Tc,S6]
       (refine aq ?_ ?_ ?_<;>simp only [aG,UG,UH,UN,UO,bd,bj,AV.v.injEq,Value.int.injEq,Value.bool.injEq,Value.string.injEq,AV.vec.injEq,AV.ptr.injEq,true_or,or_true,false_or,or_false,aa.mk.injEq,forall_eq_apply_imp_iff,forall_eq,forall_eq',go_sem])
       all_goals exact ⟨rfl,vC _ _⟩
    ·have hil:i=ae.length:=by (try simp only [bne_iff_ne,ne_eq,bne_eq_false_iff_eq,beq_iff_eq,beq_eq_false_iff_ne,decide_eq_true_eq,decide_eq_false_iff_not,UR,VF,VE,VG] at h2);omega
     rw [hil,List.take_length] at hRi
     have hall:(cN (bC s) s.em (ai s.la) ae st).all=al:=by rw [cN,hRi]
     have hrow:(cN (bC s) s.em (ai s.la) ae st).rows=st.rows++[ro]:=by rw [cN,hRi]
     rw [hall] at hrun
     repeat (first|(with_reducible first|refine ag.up ?_|refine fun (K:AK) hK=> ?_|(refine hK _ ?_;clear hK K))|simp only [go_sem]|with_reducible refine wA ?_|clear hK K)
     refine fU.part (fun h3=> ?_) (fun h3=> ?_)
     ·rw [if_pos (by (try simp only [bne_iff_ne,ne_eq,bne_eq_false_iff_eq,beq_iff_eq,beq_eq_false_iff_ne,decide_eq_true_eq,decide_eq_false_iff_not,UR,VF,VE,VG] at h3);omega)] at hrun
      repeat (first|(with_reducible first|refine ag.up ?_|refine fun (K:AK) hK=> ?_|(refine hK _ ?_;clear hK K))|simp only [go_sem]|with_reducible refine wA ?_|clear hK K)
      rw [<-hrun];exact cj.ct ⟨cj.v _,cj.v _,trivial⟩
     ·have h256: ¬ 256<al.length:=by (try simp only [bne_iff_ne,ne_eq,bne_eq_false_iff_eq,beq_iff_eq,beq_eq_false_iff_ne,decide_eq_true_eq,decide_eq_false_iff_not,UR,VF,VE,VG] at h3);omega
      rw [if_neg h256] at hrun
      repeat ((fail_if_success (with_reducible refine b5 (i:=24) ?_));first|(with_reducible first|refine ag.up ?_|refine fun (K:AK) hK=> ?_|(refine hK _ ?_;clear hK K))|simp only [go_sem]|with_reducible refine wA ?_|clear hK K)
      refine ck (rG 11 8 rfl rfl rfl rfl) (by kernel_rfl) ?_;simp only [UK,UJ]
      repeat ((fail_if_success (with_reducible refine b5 (i:=25) ?_));first|(with_reducible first|refine ag.up ?_|refine fun (K:AK) hK=> ?_|(refine hK _ ?_;clear hK K))|simp only [go_sem]|with_reducible refine wA ?_|clear hK K)
      have CF:=pk (g:=120) [.vp [.aI 1 (aM (ai s.la)) (ai s.la).length]] (by simp only [ba,AV.wf,iX,UM]) (fun n=>(ai s.la).contains n) (dL st) (by omega) (fun n=>Fl (ai s.la) n (by omega))
      have eC:(al.map BX).getD st.rows.length []=[.aI 1 (aM (dL st)) (dL st).length]:=by
       have hx:al.getD st.rows.length []=dL st:=by rw [k6,cw hlt];rfl
       rw [T3,List.getElem?_map,Tn (by omega)];rw [T3,Tn (by omega)] at hx;simp only [TG,Option.getD_some] at hx ⊢;rw [hx];rfl
      have hE:xP s.em (ai s.la) st=(((st.rows.length:Int)==0&&s.em)||(dL st).any (fun n=>(ai s.la).contains n)):=by
       rw [xP];congr 2;rw [Bool.eq_iff_iff,beq_iff_eq,beq_iff_eq];omega
      refine EB ⟨aG 112 [(0, .vp (fO s)),(1, .aI 1 (ae.map encS) ae.length),(4, .v (.pointer none)),(5, .v (.bool false)),(6, .ptr 0 0 1 0 0),(7, .vec 1 0),(8, .vec 4 al.length),(9, .ptr 5 0 2 0 0),(10, .v (.int .i64 st.rows.length))],fR s (cN (bC s) s.em (ai s.la) ae st), .no⟩ (by kernel_rfl) ?_ ?_
      ·have hO:fR s (cN (bC s) s.em (ai s.la) ae st)=fR s ⟨al,st.rows++[ro],st.ends++[xP s.em (ai s.la) st]⟩:=by rw [cN,hRi]
       rw [hO]
       rcases (UT ((st.rows.length:Int)==0)).symm with hZ|hZ
       ·have hE2:xP s.em (ai s.la) st=(dL st).any (fun n=>(ai s.la).contains n):=by rw [hE,hZ,Bool.false_and,Bool.false_or]
        simp only [fR,Vu,Vd,Vq,Tb,Tc,S6,hE2]
        (refine kO 20 88 9 (by kernel_rfl) (by decide+kernel) (by kernel_rfl) ?_;simp only [fx,Vd,Vq,VL,UP,UQ,VM,VN,VO,VK])
        repeat (first|(with_reducible first|refine ag.up ?_|refine fun (K:AK) hK=> ?_|(refine hK _ ?_;clear hK K))|simp only [go_sem,eC,hZ]|with_reducible refine wA ?_|clear hK K)
        refine bt.E9 CF 20 rfl (by simp only [go_sem,Nat.reduceLT,Nat.reduceLeDiff,Nat.reduceEqDiff,Vm,Vn,and_self]) rfl ?_
        repeat (first|(with_reducible first|refine ag.up ?_|refine fun (K:AK) hK=> ?_|(refine hK _ ?_;clear hK K))|simp only [go_sem,eC,hZ]|with_reducible refine wA ?_|clear hK K)
        (refine aq ?_ ?_ ?_<;>simp only [aG,UG,UH,UN,UO,bd,bj,AV.v.injEq,Value.int.injEq,Value.bool.injEq,Value.string.injEq,AV.vec.injEq,AV.ptr.injEq,true_or,or_true,false_or,or_false,aa.mk.injEq,forall_eq_apply_imp_iff,forall_eq,forall_eq',go_sem])
       ·rcases (UT s.em).symm with hem|hem
        ·have hE2:xP s.em (ai s.la) st=(dL st).any (fun n=>(ai s.la).contains n):=by rw [hE,hZ,hem];simp
         simp only [fR,Vu,Vd,Vq,Tb,Tc,S6,hE2]
         (refine kO 20 88 9 (by kernel_rfl) (by decide+kernel) (by kernel_rfl) ?_;simp only [fx,Vd,Vq,VL,UP,UQ,VM,VN,VO,VK])
         repeat (first|(with_reducible first|refine ag.up ?_|refine fun (K:AK) hK=> ?_|(refine hK _ ?_;clear hK K))|simp only [go_sem,eC,hZ]|with_reducible refine wA ?_|clear hK K)
         refine bt.one CE ?_
         repeat (first|(with_reducible first|refine ag.up ?_|refine fun (K:AK) hK=> ?_|(refine hK _ ?_;clear hK K))|simp only [go_sem,eC,hem]|with_reducible refine wA ?_|clear hK K)
         refine bt.E9 CF 20 rfl (by simp only [go_sem,Nat.reduceLT,Nat.reduceLeDiff,Nat.reduceEqDiff,Vm,Vn,and_self]) rfl ?_
         repeat (first|(with_reducible first|refine ag.up ?_|refine fun (K:AK) hK=> ?_|(refine hK _ ?_;clear hK K))|simp only [go_sem,eC,hem]|with_reducible refine wA ?_|clear hK K)
         (refine aq ?_ ?_ ?_<;>simp only [aG,UG,UH,UN,UO,bd,bj,AV.v.injEq,Value.int.injEq,Value.bool.injEq,Value.string.injEq,AV.vec.injEq,AV.ptr.injEq,true_or,or_true,false_or,or_false,aa.mk.injEq,forall_eq_apply_imp_iff,forall_eq,forall_eq',go_sem])
        ·have hE2:xP s.em (ai s.la) st=true:=by rw [hE,hZ,hem];simp
         simp only [fR,Vu,Vd,Vq,Tb,Tc,S6,hE2]
         (refine kO 20 88 9 (by kernel_rfl) (by decide+kernel) (by kernel_rfl) ?_;simp only [fx,Vd,Vq,VL,UP,UQ,VM,VN,VO,VK])
         repeat (first|(with_reducible first|refine ag.up ?_|refine fun (K:AK) hK=> ?_|(refine hK _ ?_;clear hK K))|simp only [go_sem,eC,hZ]|with_reducible refine wA ?_|clear hK K)
         refine bt.one CE ?_
         repeat (first|(with_reducible first|refine ag.up ?_|refine fun (K:AK) hK=> ?_|(refine hK _ ?_;clear hK K))|simp only [go_sem,eC,hem]|with_reducible refine wA ?_|clear hK K)
         (refine aq ?_ ?_ ?_<;>simp only [aG,UG,UH,UN,UO,bd,bj,AV.v.injEq,Value.int.injEq,Value.bool.injEq,Value.string.injEq,AV.vec.injEq,AV.ptr.injEq,true_or,or_true,false_or,or_false,aa.mk.injEq,forall_eq_apply_imp_iff,forall_eq,forall_eq',go_sem])
      ·have hlen:(cN (bC s) s.em (ai s.la) ae st).rows.length=st.rows.length+1:=by rw [hrow,Tb,List.length_singleton]
       have eW:=aD (k:=st.rows.length) (by omega);obtain ⟨nx,hnx⟩: ∃nx,nx=cN (bC s) s.em (ai s.la) ae st:=⟨_,rfl⟩;have hnok:BV ae nx:=hnx ▸ ru (bC s) s.em (ai s.la) hok hlt (by rw [hall];exact h256);rw [<-hnx] at hrun hlen hall ⊢;simp only [fR];simp only [aG,UG,UH,UN,UO,go_sem]
       repeat (first|(with_reducible first|refine ag.up ?_|refine fun (K:AK) hK=> ?_|(refine hK _ ?_;clear hK K))|simp only [go_sem,eW]|with_reducible refine wA ?_|clear hK K)
       refine aP.mk nx ⟨hnok,by rw [hall];exact hmd,by rw [hlen,show 257 - (st.rows.length+1)=256 - st.rows.length by omega];exact hrun⟩ (by rw [hlen];have:=hok.le;omega) ?_;simp only [fR,hall,hlen]
       (refine aq ?_ ?_ ?_<;>simp only [aG,UG,UH,UN,UO,bd,bj,AV.v.injEq,Value.int.injEq,Value.bool.injEq,Value.string.injEq,AV.vec.injEq,AV.ptr.injEq,true_or,or_true,false_or,or_false,aa.mk.injEq,forall_eq_apply_imp_iff,forall_eq,forall_eq',go_sem])
  ·have hge:st.rows.length=st.all.length:=by have:=hok.le;(try simp only [bne_iff_ne,ne_eq,bne_eq_false_iff_eq,beq_iff_eq,beq_eq_false_iff_ne,decide_eq_true_eq,decide_eq_false_iff_not,UR,VF,VE,VG] at h);omega
   rw [show 257 - st.rows.length=(256 - st.rows.length)+1 by omega,mZ,if_neg (by omega)] at hrun;have hel:=hok.ends
   repeat (first|(with_reducible first|refine ag.up ?_|refine fun (K:AK) hK=> ?_|(refine hK _ ?_;clear hK K))|simp only [go_sem]|with_reducible refine wA ?_|clear hK K)
   rw [<-hrun];simp only [pe,gV,hel];exact cj.ct ⟨cj.ptr (ob:=⟨123,2,false,[[.vec 6 st.rows.length, .vec 7 st.rows.length]]⟩) rfl rfl rfl (Nat.succ_ne_zero 1) ⟨cj.LO (ob:=⟨164,1,true,st.rows.map (fun r=>[.mp (cf r)])⟩) rfl rfl (T1 _) (nn _ _),cj.LO (ob:=⟨4,1,true,st.ends.map (fun b=>[.v (.bool b)])⟩) rfl rfl ((T1 _).trans hel) (nk _ _),trivial⟩,cj.v _,trivial⟩
structure PV (rows:List a7) (ends:List Bool):Prop where
 n:rows.length<=256
 e:ends.length=rows.length
 jT: ∀r∈rows,mn (r.map Prod.fst)
 len: ∀r∈rows,r.length<=1000
 lab: ∀r∈rows, ∀p∈r,p.1.size<=1000∧p.2<rows.length
theorem mC (a b:ByteArray):(a++b).size=a.size+b.size:=ByteArray.size_append
theorem ux (u:Nat) (h:u<1000):(⟨(Lib.decDigits u).toArray⟩:ByteArray).size<=3:=by
 have:=qj u h
 simpa [ByteArray.size] using this
theorem tf (part:List Nat) (p:Nat):cz part p []=⟨(Lib.decDigits p).toArray⟩:=by simp [cz,u6]
theorem qZ (part:List Nat) (p:Nat) (r:a7) (e:ByteArray×Nat):cz part p (r++[e])=cz part p r++(((⟨#[32]⟩++e.1)++⟨#[32]⟩)++⟨(Lib.decDigits (part.getD e.2 0)).toArray⟩):=by
 apply ByteArray.ext
 rw [cz,Dg];simp [cz,ByteArray.data_append]
theorem zP (part:List Nat) (p:Nat) (hp:p<1000) (hq: ∀s,part.getD s 0<1000): ∀r:a7,(∀e∈r,e.1.size<=1000)->(cz part p r).size<=3+1005 * r.length:=by
 refine jF ?_ ?_
 ·intro _;rw [tf];have:=ux p hp;simpa using this
 ·intro r e ih h;have h1:=ih fun x hx=>h x (List.mem_append_left _ hx);have h2:=h e (by simp);have h3:=ux _ (hq e.2);have h4:(⟨#[32]⟩:ByteArray).size=1:=rfl;rw [qZ,mC,mC,mC,mC,h4,Tb,List.length_singleton];omega
theorem pE {l:List Nat} {b:Nat} (hb:0<b) (h: ∀v∈l,v<b) (s:Nat):l.getD s 0<b:=by
 rw [T3]
 cases hs:l[s]? with
 | none=>simpa using hb
 | some v=>exact h v (List.mem_of_getElem? hs)
theorem Nl (ends:List Bool): ∀v∈p0 ends,v<1000:=fun v hv=>by
 rw [p0,List.mem_map] at hv;obtain ⟨b,_,rfl⟩:=hv
 split<;>omega
theorem Jg (rows:List a7) (part:List Nat) (n:Nat) (v:Nat) (hv:v∈(dy rows part n).2):v<(dy rows part n).1.length:=by
 have ok:=fD rows part n;obtain ⟨s,hs,rfl⟩:=List.mem_iff_getElem.1 hv
 have:=(ok.at' s (by have:=ok.len;omega)).1
 rw [T3,Tn hs] at this;exact this
theorem Lc {rows:List a7} (hn:rows.length<=256) (part:List Nat): ∀v∈dA rows part,v<1000:=fun v hv=>by
 have:=Jg rows part rows.length v hv
 have:=(fD rows part rows.length).le
 omega
theorem Bt (A:List Nat) (n i v:Nat) (hA:A.length=i) (h:i<n):(aM (A++List.replicate (n - i) 0)).set i [.v (.int .i64 (v:Nat))]=aM ((A++[v])++List.replicate (n - (i+1)) 0):=by
 rw [show n - i=(n - (i+1))+1 by omega,UN,aM,aM,Vu,Vu,Vu,List.set_append,if_neg (by simp [hA])];simp [hA]
theorem M1 (A:List Nat) (n i:Nat) (hA:A.length=i) (h:i<n):(aM (A++List.replicate (n - i) 0)).getD i []=[.v (.int .i64 0)]:=by
 rw [show n - i=(n - (i+1))+1 by omega,UN,aM,Vu,T3,List.getElem?_append_right (by simp [hA])];simp [hA]
theorem Nu (A:List Nat) (n i:Nat) (h:i<n):A++List.replicate (n - i) 0=(A++[0])++List.replicate (n - (i+1)) 0:=by
 rw [show n - i=(n - (i+1))+1 by omega,UN];simp
def F9 (ends:List Bool) (i:Nat):List (Option aa):=[some ⟨3,1,true,aM (p0 (ends.take i)++List.replicate (ends.length - i) 0)⟩,some ⟨56,1,false,[[.vec 0 ends.length]]⟩]
def oc (n:Nat) (part:List Nat):List (Option aa):=[none,some ⟨56,1,false,[[.aI 1 (aM part) n]]⟩]
def sd (rows:List a7) (part:List Nat) (s:Nat):List (Option aa):=oc rows.length part++[some ⟨163,0,false,DR (dy rows part s).1⟩,some ⟨3,1,true,aM ((dy rows part s).2++List.replicate (rows.length - s) 0)⟩]
theorem Ji {rows:List a7} {ends:List Bool} (ok:PV rows ends):af Tryz.prog 124 [.vp (gV rows ends)] (.aI 1 (aM (cu rows ends)) rows.length):=by
 have hN:=ok.n;have hE:=ok.e
 have hA:ba 0 [AV.vp (gV rows ends)]=true:=by simp only [gV,ba,AV.wf,nn,nk,Bool.and_self]
 have hF:(AV.aI 1 (aM (cu rows ends)) rows.length).wf 0=true:=by simp only [AV.wf,iX]
 generalize hrv:AV.aI 1 (aM (cu rows ends)) rows.length=rv at hF ⊢
 (refine af.nL Tryz.func124 rfl (by kernel_rfl) (by kernel_rfl) rfl hA hF ?_;simp only [Tryz.ntmps124,Tryz.results124,List.length_cons,List.length_nil,Nat.reduceAdd,Nat.reduceSub,UN,UO,UP,UQ])
 simp only [gV]
 repeat (first|(with_reducible first|refine ag.up ?_|refine fun (K:AK) hK=> ?_|refine wE ?_|refine wK ?_|refine wF ?_|(refine hK _ ?_;clear hK K))|simp only [go_sem]|with_reducible refine wA ?_|clear hK K)
 refine bW (ι:=Nat) 27 (fun i=>[(4, .undef),(5, .undef),(26, .v (.int .i64 i))]) (F9 ends) (fun i=>ends.length - i) (fun i=>i<=ends.length) 0 (Te _) ?_ ?_
 ·have e0:aM (p0 (ends.take 0)++List.replicate (ends.length - 0) 0)=List.replicate rows.length [AV.v (.int .i64 0)]:=by
   rw [hE];simp [p0,aM]
  simp only [F9,e0,hE]
  (refine aq ?_ ?_ ?_<;>simp only [aG,UG,UH,UN,UO,bd,bj,AV.v.injEq,Value.int.injEq,Value.bool.injEq,Value.string.injEq,AV.vec.injEq,AV.ptr.injEq,true_or,or_true,false_or,or_false,aa.mk.injEq,forall_eq_apply_imp_iff,forall_eq,forall_eq',go_sem])
  all_goals first|rfl|simp [p0,aM]
 ·intro i hi K hK;simp only [F9]
  repeat (first|(with_reducible first|refine ag.up ?_|refine fun (K:AK) hK=> ?_|refine wE ?_|refine wK ?_|refine wF ?_|(refine hK _ ?_;clear hK K))|simp only [go_sem]|with_reducible refine wA ?_|clear hK K)
  refine fU.part (fun h=> ?_) (fun h=> ?_)
  ·have hlt:i<ends.length:=by (try simp only [bne_iff_ne,ne_eq,bne_eq_false_iff_eq,beq_iff_eq,beq_eq_false_iff_ne,decide_eq_true_eq,decide_eq_false_iff_not,UR,VF,VE,VG] at h);omega
   have eW:=aD (k:=i) (by omega)
   have eG:(ends.map (fun b=>[AV.v (.bool b)])).getD i []=[.v (.bool ends[i])]:=by
    rw [T3,Tq,Tn hlt];rfl
   have hl0:(p0 (ends.take i)).length=i:=by rw [p0,T1,List.length_take];omega
   have eL:(aM (p0 (ends.take i)++List.replicate (ends.length - i) 0)).length=ends.length:=by rw [aM,T1,Tb,hl0,VP];omega
   have eN:p0 (ends.take (i+1))=p0 (ends.take i)++[if ends[i] then 1 else 0]:=by rw [p0,p0,VB hlt,Vu];rfl
   rcases (Bool.eq_false_or_eq_true ends[i]).symm with hb|hb
   ·rw [hb] at eG eN;rw [if_neg (by decide)] at eN
    repeat (first|(with_reducible first|refine ag.up ?_|refine fun (K:AK) hK=> ?_|refine wE ?_|refine wK ?_|refine wF ?_|(refine hK _ ?_;clear hK K))|simp only [go_sem,eG,h]|with_reducible refine wA ?_|clear hK K)
    repeat (first|(with_reducible first|refine ag.up ?_|refine fun (K:AK) hK=> ?_|refine wE ?_|refine wK ?_|refine wF ?_|(refine hK _ ?_;clear hK K))|simp only [go_sem,eW]|with_reducible refine wA ?_|clear hK K)
    refine aP.mk (i+1) (by omega) (by omega) ?_;simp only [F9,eN, <- Nu _ _ _ hlt]
    (refine aq ?_ ?_ ?_<;>simp only [aG,UG,UH,UN,UO,bd,bj,AV.v.injEq,Value.int.injEq,Value.bool.injEq,Value.string.injEq,AV.vec.injEq,AV.ptr.injEq,true_or,or_true,false_or,or_false,aa.mk.injEq,forall_eq_apply_imp_iff,forall_eq,forall_eq',go_sem])
   ·rw [hb] at eG eN;rw [if_pos rfl] at eN;have eS:=Bt (p0 (ends.take i)) ends.length i 1 hl0 hlt;have eS:=Bt (p0 (ends.take i)) ends.length i 1 hl0 hlt;have eQ:=M1 (p0 (ends.take i)) ends.length i hl0 hlt;have c1:((1:Nat):Int)=1:=rfl;rw [c1] at eS
    repeat (first|(with_reducible first|refine ag.up ?_|refine fun (K:AK) hK=> ?_|refine wE ?_|refine wK ?_|refine wF ?_|(refine hK _ ?_;clear hK K))|simp only [go_sem,eG,h,eL,eQ,VM,VN,eS]|with_reducible refine wA ?_|clear hK K)
    repeat (first|(with_reducible first|refine ag.up ?_|refine fun (K:AK) hK=> ?_|refine wE ?_|refine wK ?_|refine wF ?_|(refine hK _ ?_;clear hK K))|simp only [go_sem,eW]|with_reducible refine wA ?_|clear hK K)
    refine aP.mk (i+1) (by omega) (by omega) ?_;simp only [F9,eN]
    (refine aq ?_ ?_ ?_<;>simp only [aG,UG,UH,UN,UO,bd,bj,AV.v.injEq,Value.int.injEq,Value.bool.injEq,Value.string.injEq,AV.vec.injEq,AV.ptr.injEq,true_or,or_true,false_or,or_false,aa.mk.injEq,forall_eq_apply_imp_iff,forall_eq,forall_eq',go_sem])
    all_goals trace_state
  ·have h16:i=ends.length:=by (try simp only [bne_iff_ne,ne_eq,bne_eq_false_iff_eq,beq_iff_eq,beq_eq_false_iff_ne,decide_eq_true_eq,decide_eq_false_iff_not,UR,VF,VE,VG] at h);omega
   have e1:aM (p0 (ends.take i)++List.replicate (ends.length - i) 0)=aM (p0 ends):=by rw [h16,List.take_length,Nat.sub_self];simp
   have l0:(aM (p0 ends)).length=ends.length:=by simp [aM,p0]
   have l1:(p0 ends).length=rows.length:=by simp [p0,hE]
   simp only [e1]
   repeat ((fail_if_success (with_reducible refine b5 (i:=8) ?_));first|(with_reducible first|refine ag.up ?_|refine fun (K:AK) hK=> ?_|refine wK ?_|refine wF ?_|(refine hK _ ?_;clear hK K))|simp only [go_sem]|with_reducible refine wA ?_|clear hK K)
   refine ck (kH (k:=1) (i:=0) (j:=0) (by decide) rfl (Nat.zero_lt_succ _) rfl rfl rfl rfl l0) (by kernel_rfl) ?_;simp only [List.set_cons_zero,List.set_cons_succ,hE];clear hi h h16 e1 l0;have hs0: ∃f,rows.length+2<=f+0∧AV.aI 1 (aM (u7 rows f (p0 ends) 0)) rows.length=rv:=⟨rows.length+2,Nat.le_refl _,hrv⟩;clear hrv
   repeat (first|(with_reducible first|refine ag.up ?_|refine fun (K:AK) hK=> ?_|refine wE ?_|refine wK ?_|refine wF ?_|(refine hK _ ?_;clear hK K))|simp only [go_sem]|with_reducible refine wA ?_|clear hK K)
   refine bW (ι:=List Nat×Nat) 7 (fun x=>[(4, .undef),(5, .undef),(6, .v (.int .i64 x.2))]) (fun x=>oc rows.length x.1) (fun x=>rows.length+1 - x.2) (fun x=>(∀v∈x.1,v<1000)∧x.2<=rows.length∧MD rows x.1 x.2∧ ∃f,rows.length+2<=f+x.2∧AV.aI 1 (aM (u7 rows f x.1 x.2)) rows.length=rv) (p0 ends,0) ⟨Nl ends,Te _,⟨l1,fun k hk=>absurd hk (Nat.not_lt_zero k)⟩,hs0⟩ ?_ ?_
   ·simp only [oc]
    (refine aq ?_ ?_ ?_<;>simp only [aG,UG,UH,UN,UO,bd,bj,AV.v.injEq,Value.int.injEq,Value.bool.injEq,Value.string.injEq,AV.vec.injEq,AV.ptr.injEq,true_or,or_true,false_or,or_false,aa.mk.injEq,forall_eq_apply_imp_iff,forall_eq,forall_eq',go_sem])
    all_goals rfl
   ·rintro ⟨part,many⟩ ⟨hpl,hml,hpo,f,hf,hfr⟩ K hK;simp only at hpl hml hpo hf hfr;have hpn:=hpo.1;simp only [oc]
    repeat (first|(with_reducible first|refine ag.up ?_|refine fun (K:AK) hK=> ?_|refine wE ?_|refine wK ?_|refine wF ?_|(refine hK _ ?_;clear hK K))|simp only [go_sem]|with_reducible refine wA ?_|clear hK K)
    have z0:List.replicate rows.length [AV.v (.int .i64 0)]=aM (List.replicate rows.length 0):=by simp [aM]
    refine bW (ι:=Nat) 46 (fun s=>[(9, .undef),(10, .undef),(11, .undef),(12, .undef),(13, .undef),(14, .undef),(45, .v (.int .i64 s))]) (sd rows part) (fun s=>rows.length - s) (fun s=>s<=rows.length) 0 (Te _) ?_ ?_
    ·simp only [sd,oc,UP,UQ]
     (refine aq ?_ ?_ ?_<;>simp only [aG,UG,UH,UN,UO,bd,bj,AV.v.injEq,Value.int.injEq,Value.bool.injEq,Value.string.injEq,AV.vec.injEq,AV.ptr.injEq,true_or,or_true,false_or,or_false,aa.mk.injEq,forall_eq_apply_imp_iff,forall_eq,forall_eq',go_sem])
     all_goals first|rfl|exact ⟨rfl,z0⟩|trace_state
    ·intro s hs K hK;have pok:=fD rows part s;simp only [sd,oc,UP,UQ]
     repeat (first|(with_reducible first|refine ag.up ?_|refine fun (K:AK) hK=> ?_|refine wE ?_|refine wK ?_|refine wF ?_|(refine hK _ ?_;clear hK K))|simp only [go_sem]|with_reducible refine wA ?_|clear hK K)
     refine fU.part (fun h=> ?_) (fun h=> ?_)
     ·have hlt:s<rows.length:=by (try simp only [bne_iff_ne,ne_eq,bne_eq_false_iff_eq,beq_iff_eq,beq_eq_false_iff_ne,decide_eq_true_eq,decide_eq_false_iff_not,UR,VF,VE,VG] at h);omega
      have eW:=aD (k:=s) (by omega)
      have eG:(aM part).getD s []=[.v (.int .i64 ((part.getD s 0:Nat):Int))]:=by
       rw [aM,T3,Tq,Tn (by omega),T3,Tn (by omega)];rfl
      have CI:=Fp (part.getD s 0) (by have:=pE (by omega) hpl s;omega);have CS:=By rows ends s;have hlr:=ok.lab _ (Uy hlt);have hln:=ok.len _ (Uy hlt);have hseq:=tL rows ends s hlt (by omega) (fun p hp=>Nat.le_trans (hlr p hp).1 (by decide)) (ok.jT _ (Uy hlt)) (by omega);simp only [gV,hE] at CS hseq;obtain ⟨row,hrow⟩: ∃row,row=rows[s]:=⟨_,rfl⟩;rw [<-hrow] at hlr hln hseq;have hq1:part.getD s 0<1000:=pE (by omega) hpl s
      repeat (first|(with_reducible first|refine ag.up ?_|refine fun (K:AK) hK=> ?_|refine wE ?_|refine wK ?_|refine wF ?_|(refine hK _ ?_;clear hK K))|simp only [go_sem,eG,h]|with_reducible refine wA ?_|clear hK K)
      refine ab.one CI ?_
      repeat (first|(with_reducible first|refine ag.up ?_|refine fun (K:AK) hK=> ?_|refine wE ?_|refine wK ?_|refine wF ?_|(refine hK _ ?_;clear hK K))|simp only [go_sem]|with_reducible refine wA ?_|clear hK K)
      refine ab.one CS ?_
      repeat (first|(with_reducible first|refine ag.up ?_|refine fun (K:AK) hK=> ?_|refine wE ?_|refine wK ?_|refine wF ?_|(refine hK _ ?_;clear hK K))|simp only [go_sem]|with_reducible refine wA ?_|clear hK K)
      refine lS hseq 58 (fun k=>sd rows part s++[some ⟨9,1,false,[[.v (.string (cz part (part.getD s 0) (row.take k)))]]⟩]) (fun k=>k<=row.length) (Te _) ?_ ?_ ?_ (by kernel_rfl) (by kernel_rfl) ?_ ?_ ?_
      ·repeat (first|(with_reducible first|refine ag.up ?_|refine fun (K:AK) hK=> ?_|refine wE ?_|refine wK ?_|refine wF ?_|(refine hK _ ?_;clear hK K))|simp only [go_sem]|with_reducible refine wA ?_|clear hK K)
      ·simp only [ba,AV.wf,nn,nk,Bool.and_self]
      ·simp only [sd,oc,UP,UQ,List.take_zero,tf]
       (refine aq ?_ ?_ ?_<;>simp only [aG,UG,UH,UN,UO,bd,bj,AV.v.injEq,Value.int.injEq,Value.bool.injEq,Value.string.injEq,AV.vec.injEq,AV.ptr.injEq,true_or,or_true,false_or,or_false,aa.mk.injEq,forall_eq_apply_imp_iff,forall_eq,forall_eq',go_sem])
       all_goals trace_state
      ·intro x hx;obtain ⟨o,_,rfl⟩:=List.mem_map.1 hx
       rfl
      ·intro k x hk hx
       obtain ⟨hkl,hx⟩: ∃h:k<row.length,x=[.v (.string row[k].1), .v (.int .i64 (row[k].2:Nat))]:=by
        obtain ⟨h1,h2⟩:=List.getElem?_eq_some_iff.1 hx;simp only [cf,T1] at h1;exact ⟨h1,by rw [<-h2];simp [cf]⟩
       subst hx;obtain ⟨hz1,hz2⟩:=hlr _ (Uy hkl)
       have eT:(aM part).getD row[k].2 []=[.v (.int .i64 ((part.getD row[k].2 0:Nat):Int))]:=by
        rw [aM,T3,Tq,Tn (by omega),T3,Tn (by omega)];rfl
       have hq2:part.getD row[k].2 0<1000:=pE (by omega) hpl _;have CJ:=Fp (part.getD row[k].2 0) (by omega);have hS:=qZ part (part.getD s 0) (row.take k) row[k];rw [<-VB hkl] at hS;simp only [sd,oc,UP,UQ];have h32:(⟨#[32]⟩:ByteArray).size=1:=rfl;have hd1:=ux _ hq2;have hd2:=zP part (part.getD s 0) hq1 (pE (by omega) hpl) (row.take k) (fun e he=>(hlr _ (List.mem_of_mem_take he)).1);rw [List.length_take] at hd2;have b1:(#[32]:Array UInt8).size=1:=rfl;have b2:(Lib.decDigits (part.getD row[k].2 0)).toArray.size<=3:=hd1
       repeat (first|(with_reducible first|refine ag.up ?_|refine fun (K:AK) hK=> ?_|refine wE ?_|refine wK ?_|refine wF ?_|(refine hK _ ?_;clear hK K))|simp only [go_sem,eT]|with_reducible refine wA ?_|clear hK K)
       refine bt.one CJ ?_
       repeat (first|(with_reducible first|refine ag.up ?_|refine fun (K:AK) hK=> ?_|refine wE ?_|refine wK ?_|refine wF ?_|(refine hK _ ?_;clear hK K))|simp only [go_sem,eT]|with_reducible refine wA ?_|clear hK K)
       simp only [sd,oc,UP,UQ,hS]
       (refine aq ?_ ?_ ?_<;>simp only [aG,UG,UH,UN,UO,bd,bj,AV.v.injEq,Value.int.injEq,Value.bool.injEq,Value.string.injEq,AV.vec.injEq,AV.ptr.injEq,true_or,or_true,false_or,or_false,aa.mk.injEq,forall_eq_apply_imp_iff,forall_eq,forall_eq',go_sem])
      ·intro _
       have hmr:(cf row).length=row.length:=by simp [cf]
       simp only [hmr,List.take_length,sd,oc,UP,UQ];have eA:=Ei (cz part (part.getD s 0) row) (dy rows part s).1;have hI:=te rows part s
       have hg:rows.getD s []=row:=by rw [hrow,T3,Tn hlt];rfl
       rw [OS,hg] at hI;have l2:=pok.len;have l3:=pok.le
       rcases hps:dy rows part s with ⟨ks,ns⟩
       rw [hps] at hI eA l2 l3;simp only at hI eA l2 l3
       have eL:(aM (ns++List.replicate (rows.length - s) 0)).length=rows.length:=by rw [aM,T1,Tb,l2,VP];omega
       have eQ:=M1 ns rows.length s l2 hlt
       cases hp:pos ks (cz part (part.getD s 0) row) with
       | some k=>
        rw [hp] at hI eA;simp only [Option.map_some] at eA hI;have eS:=Bt ns rows.length s k l2 hlt
        repeat (first|(with_reducible first|refine ag.up ?_|refine fun (K:AK) hK=> ?_|refine wE ?_|refine wK ?_|refine wF ?_|(refine hK _ ?_;clear hK K))|simp only [go_sem,eA,eL,eQ,VM,VN,eS]|with_reducible refine wA ?_|clear hK K)
        repeat (first|(with_reducible first|refine ag.up ?_|refine fun (K:AK) hK=> ?_|refine wE ?_|refine wK ?_|refine wF ?_|(refine hK _ ?_;clear hK K))|simp only [go_sem,eW]|with_reducible refine wA ?_|clear hK K)
        refine aP.mk (s+1) (by omega) (by omega) ?_;simp only [sd,oc,UP,UQ,hI]
        (refine aq ?_ ?_ ?_<;>simp only [aG,UG,UH,UN,UO,bd,bj,AV.v.injEq,Value.int.injEq,Value.bool.injEq,Value.string.injEq,AV.vec.injEq,AV.ptr.injEq,true_or,or_true,false_or,or_false,aa.mk.injEq,forall_eq_apply_imp_iff,forall_eq,forall_eq',go_sem])
       | none=>
        rw [hp] at hI eA;simp only [Option.map_none] at eA hI;have eS:=Bt ns rows.length s ks.length l2 hlt;have eK:=Ek (cz part (part.getD s 0) row) ks hp;have eM:=Ba ks
        repeat (first|(with_reducible first|refine ag.up ?_|refine fun (K:AK) hK=> ?_|refine wE ?_|refine wK ?_|refine wF ?_|(refine hK _ ?_;clear hK K))|simp only [go_sem,eA,eL,eQ,VM,VN,eS,eK,eM]|with_reducible refine wA ?_|clear hK K)
        repeat (first|(with_reducible first|refine ag.up ?_|refine fun (K:AK) hK=> ?_|refine wE ?_|refine wK ?_|refine wF ?_|(refine hK _ ?_;clear hK K))|simp only [go_sem,eW]|with_reducible refine wA ?_|clear hK K)
        refine aP.mk (s+1) (by omega) (by omega) ?_;simp only [sd,oc,UP,UQ,hI]
        (refine aq ?_ ?_ ?_<;>simp only [aG,UG,UH,UN,UO,bd,bj,AV.v.injEq,Value.int.injEq,Value.bool.injEq,Value.string.injEq,AV.vec.injEq,AV.ptr.injEq,true_or,or_true,false_or,or_false,aa.mk.injEq,forall_eq_apply_imp_iff,forall_eq,forall_eq',go_sem])
     ·have hss:s=rows.length:=by (try simp only [bne_iff_ne,ne_eq,bne_eq_false_iff_eq,beq_iff_eq,beq_eq_false_iff_ne,decide_eq_true_eq,decide_eq_false_iff_not,UR,VF,VE,VG] at h);omega
      subst hss;have l2:=pok.len
      have e1:(dy rows part rows.length).2++List.replicate (rows.length - rows.length) 0=dA rows part:=by rw [Nat.sub_self];simp [dA]
      have e2:=Ba (dy rows part rows.length).1;have e3:(dy rows part rows.length).1.length=fQ rows part:=rfl;rw [e3] at e2
      have eL:(aM (dA rows part)).length=rows.length:=by rw [aM,T1];exact l2
      simp only [e1];have hme:=xx rows part;have hmo:=q8 rows hpo
      repeat ((fail_if_success (with_reducible refine b5 (i:=26) ?_));first|(with_reducible first|refine ag.up ?_|refine fun (K:AK) hK=> ?_|refine wK ?_|refine wF ?_|(refine hK _ ?_;clear hK K))|simp only [go_sem]|with_reducible refine wA ?_|clear hK K)
      clear hK;clear hK;clear K;clear K
      repeat ((fail_if_success (with_reducible refine b5 (i:=26) ?_));first|(with_reducible first|refine ag.up ?_|refine fun (K:AK) hK=> ?_|refine wK ?_|refine wF ?_|(refine hK _ ?_;clear hK K))|simp only [go_sem]|with_reducible refine wA ?_|clear hK K)
      refine ck (kH (k:=1) (i:=0) (j:=0) (by decide) rfl (Nat.zero_lt_succ _) rfl rfl rfl rfl eL) (by kernel_rfl) ?_;simp only [List.set_cons_zero,List.set_cons_succ]
      repeat (first|(with_reducible first|refine ag.up ?_|refine fun (K:AK) hK=> ?_|refine wE ?_|refine wK ?_|refine wF ?_|(refine hK _ ?_;clear hK K))|simp only [go_sem,e2]|with_reducible refine wA ?_|clear hK K)
      refine fU.part (fun h2=> ?_) (fun h2=> ?_)
      ·have hm:fQ rows part=many:=by (try simp only [bne_iff_ne,ne_eq,bne_eq_false_iff_eq,beq_iff_eq,beq_eq_false_iff_ne,decide_eq_true_eq,decide_eq_false_iff_not,UR,VF,VE,VG] at h2);omega
       obtain ⟨f',rfl⟩: ∃f',f=f'+1:=⟨f - 1,by omega⟩;rw [u7,if_pos hm] at hfr
       repeat (first|(with_reducible first|refine ag.up ?_|refine fun (K:AK) hK=> ?_|refine wE ?_|refine wK ?_|refine wF ?_|(refine hK _ ?_;clear hK K))|simp only [go_sem]|with_reducible refine wA ?_|clear hK K)
       rw [<-hfr];exact cj.Qp (iX _ _)
      ·have hm:fQ rows part≠many:=by (try simp only [bne_iff_ne,ne_eq,bne_eq_false_iff_eq,beq_iff_eq,beq_eq_false_iff_ne,decide_eq_true_eq,decide_eq_false_iff_not,UR,VF,VE,VG] at h2);omega
       obtain ⟨f',rfl⟩: ∃f',f=f'+1:=⟨f - 1,by omega⟩;rw [u7,if_neg hm] at hfr
       repeat (first|(with_reducible first|refine ag.up ?_|refine fun (K:AK) hK=> ?_|refine wE ?_|refine wK ?_|refine wF ?_|(refine hK _ ?_;clear hK K))|simp only [go_sem,e2]|with_reducible refine wA ?_|clear hK K)
       refine aP.mk (dA rows part,fQ rows part) ⟨Lc hN part,hme,q9 rows part,f', ?_,hfr⟩ ?_ ?_
       ·show rows.length+2<=f'+fQ rows part;omega
       ·show rows.length+1 - fQ rows part<rows.length+1 - many;omega
       ·simp only [oc]
        (refine aq ?_ ?_ ?_<;>simp only [aG,UG,UH,UN,UO,bd,bj,AV.v.injEq,Value.int.injEq,Value.bool.injEq,Value.string.injEq,AV.vec.injEq,AV.ptr.injEq,true_or,or_true,false_or,or_false,aa.mk.injEq,forall_eq_apply_imp_iff,forall_eq,forall_eq',go_sem])
section
section
variable {D:Nat->Prop} {nu:Nat->Nat->Value} {o:List (Option aa)} {w:World} {P:Program}
theorem JL {s:AS} {k i j id len:Nat} {ob:aa} {row:List AV} (x':AV) (hto: ∀(D:Nat->Prop) (nu:Nat->Nat->Value) (w:World),RO D nu s.o w->RA D nu (s.o.set id none) w x' (nu id len)) (hne:id≠k) (hk:s.o[k]? = some (some ob)) (hz:0<ob.z) (hr:ob.rows[i]? = some row) (hj:row[j]? = some (.vec id len)) :
  yK s (AS.mk s.t ((s.o.set id none).set k (some { ob with rows:=ob.rows.set i (row.set j x') })) s.y):=by
 intro f D nu a w hs;have hp:=c6 (nu:=nu) (o:=s.o) (w:=w) id;have hro:=kW hs.ro id
 have hk':(s.o.set id none)[k]? = some (some ob):=by rw [Tv hne];exact hk
 have hh:ob.hl=({ ob with rows:=ob.rows.set i (row.set j x') }:aa).hl:=by simp [aa.hl]
 obtain ⟨g,cur,hb⟩: ∃g cur,vH D nu (s.o.set id none) w k ob g cur:=by
  rcases hro.obj k ob hk' with ⟨_,e,_⟩|h|⟨g,es,cl,hm⟩
  ·rw [e] at hr;simp at hr
  ·exact h
  ·have:=hm.z;omega
 have hm:=gO (nu:=nu) (o:=s.o.set id none) (w:=w) (w':=w) (ob':={ ob with rows:=ob.rows.set i (row.set j x') }) hk' hh.symm hb.bn rfl rfl rfl rfl (fun _ _=>rfl);refine ⟨nu,hp.trans hm,rfl, ?_,(hs.tm.mono hp (fun _ _ h=>h)).mono hm (fun _ _ h=>h),hs.ig⟩;have hil:=(S7.1 hr).1;have hjl:=(S7.1 hj).1;have hsl:=hto D nu w hs.ro
 have key: ∀(i' j':Nat) r c,(ob.rows.set i (row.set j x'))[i']? = some r->r[j']? = some c-> ∃r0 c0,ob.rows[i']? = some r0∧r0[j']? = some c0∧(c=c0∨(c=x'∧c0 = .vec id len)):=by
  intro i' j' r c h1 h2
  by_cases hi:i=i'
  ·subst hi;rw [Tw hil] at h1;cases h1
   by_cases hj':j=j'
   ·subst hj';rw [Tw hjl] at h2;cases h2;exact ⟨row,_,hr,hj, .inr ⟨rfl,rfl⟩⟩
   ·rw [Tv hj'] at h2;exact ⟨row,c,hr,h2, .inl rfl⟩
  ·rw [Tv hi] at h1;exact ⟨r,c,h1,h2, .inl rfl⟩
 refine ox hro hk' hh.symm hb.bn hm (fun _ _=>rfl) (cur:=cur) ⟨hb.cZ,hb.j9,fun hv'=> ?_,fun hv'=> ?_,hb.z,fun i' r hi'=> ?_,fun i' j' r c x h1 h2 h3=> ?_,fun i' j' r c x h1 h2 h3=> ?_⟩
 ·obtain ⟨q1,q2,q3⟩:=hb.box hv';exact ⟨q1,by simpa using q2,q3⟩
 ·obtain ⟨cap,q1,q2,q3,q4⟩:=hb.vec hv';exact ⟨cap,by simpa using q1,by simpa using q2,q3,q4⟩
 ·by_cases hi:i=i'
  ·subst hi;rw [Tw hil] at hi';cases hi';rw [List.length_set];exact hb.row i row hr
  ·rw [Tv hi] at hi';exact hb.row i' r hi'
 ·obtain ⟨r0,c0,k1,k2,e⟩:=key i' j' r c h1 h2;have h0:=hb.cell i' j' r0 c0 x k1 k2 h3
  rcases e with rfl|⟨rfl,rfl⟩
  ·exact h0.mono hm (fun _ _ h=>h)
  ·have hx:x=nu id len:=by
    cases h0 with
    | vec=>rfl
   rw [hx];exact hsl.mono hm (fun _ _ h=>h)
 ·obtain ⟨r0,c0,k1,k2,_⟩:=key i' j' r c h1 h2;exact hb.one i' j' r0 c0 x k1 k2 h3
theorem tO {s:AS} {k i j id:Nat} {ob ob2:aa} {row:List AV} (hne:id≠k) (hk:s.o[k]? = some (some ob)) (hz:0<ob.z) (hr:ob.rows[i]? = some row) (hj:row[j]? = some (.vec id 0)) (ho:s.o[id]? = some (some ob2)) (hv:ob2.dj=false) (hz2:ob2.z=0) :
  yK s (AS.mk s.t ((s.o.set id none).set k (some { ob with rows:=ob.rows.set i (row.set j (.mp ob2.rows)) })) s.y):=JL (.mp ob2.rows) (fun D nu w h=>FN h ho hv hz2) hne hk hz hr hj
end
def iM (l:List Nat):List (List AV):=l.zipIdx.map (fun p=>[.v (.int .i64 (p.1:Nat)), .v (.int .i64 (p.2:Nat))])
@[go_sem] theorem R2 (n:Nat) (l:List Nat):bQ n (iM l)=true:=bg _ (fun p=>rfl) _
theorem AF (x:Nat): ∀(l:List Nat) (k:Nat),jQ (.int .i64) (.int .i64 (x:Nat)) ((l.zipIdx k).map (fun p=>[.v (.int .i64 (p.1:Nat)), .v (.int .i64 (p.2:Nat))]))=some ((l.findIdx? (fun y=>x==y)).map (fun n=> .v (.int .i64 ((n+k:Nat):Int))))
 | [],k=>rfl
 | a :: l,k=>by
  have ih:=AF x l (k+1);rw [List.zipIdx_cons,Vd,jQ,if_pos (show cm (.int .i64) (.int .i64 (a:Nat))=true from rfl)]
  have e:cU (.int .i64 (x:Nat)) (.int .i64 (a:Nat))=(x==a):=by
   rw [cU,Bool.eq_iff_iff,beq_iff_eq,beq_iff_eq];omega
  rw [e,List.findIdx?_cons]
  cases h:x==a
  ·simp only [Bool.false_eq_true,if_false];rw [ih,Option.map_map]
   congr 2;funext i;simp;omega
  ·simp
theorem KH (x:Nat) (l:List Nat):jQ (.int .i64) (.int .i64 (x:Nat)) (iM l)=some ((l.findIdx? (fun y=>x==y)).map (fun n=> .v (.int .i64 (n:Nat)))):=AF x l 0
theorem AI (x:Nat) (v:AV): ∀(l:List Nat) (k:Nat),l.findIdx? (fun y=>x==y)=none->jf (.int .i64) (.int .i64 (x:Nat)) v ((l.zipIdx k).map (fun p=>[.v (.int .i64 (p.1:Nat)), .v (.int .i64 (p.2:Nat))]))=some ((l.zipIdx k).map (fun p=>[.v (.int .i64 (p.1:Nat)), .v (.int .i64 (p.2:Nat))])++[[.v (.int .i64 (x:Nat)),v]])
 | [],k,_=>rfl
 | a :: l,k,h=>by
  rw [List.findIdx?_cons] at h
  have e:cU (.int .i64 (x:Nat)) (.int .i64 (a:Nat))=(x==a):=by
   rw [cU,Bool.eq_iff_iff,beq_iff_eq,beq_iff_eq];omega
  cases hh:x==a
  ·rw [hh] at h;simp only [Bool.false_eq_true,if_false,Option.map_eq_none_iff] at h;have ih:=AI x v l (k+1) h;rw [List.zipIdx_cons,Vd,jf,if_pos (show cm (.int .i64) (.int .i64 (a:Nat))=true from rfl),e,hh,if_neg (by decide),ih];rfl
  ·rw [hh] at h;simp at h
theorem KI (x:Nat) (l:List Nat) (h:l.findIdx? (fun y=>x==y)=none):jf (.int .i64) (.int .i64 (x:Nat)) (.v (.int .i64 (l.length:Nat))) (iM l)=some (iM (l++[x])):=by
 rw [iM,AI x _ l 0 h,iM,List.zipIdx_append];simp
theorem IG {o:List (Option aa)} {z1 l1 z2 l2:Nat} {r1 r2:List (List AV)} (h1:bQ 0 r1=true) (h2:bQ 0 r2=true):cj o (.agg [.aI z1 r1 l1, .aI z2 r2 l2]) (.agg [.aI z1 r1 l1, .aI z2 r2 l2]):=
 cj.of 5 (p:=(AV.aI z1 r1 l1).wf 0=true∧(AV.aI z2 r2 l2).wf 0=true∧True) (by simp only [fJ,eU]) ⟨by rw [AV.wf];exact h1,by rw [AV.wf];exact h2,trivial⟩
def gA (rows:List a7) (ends:List Bool):AV:= .agg (gV rows ends)
def sa (n:Nat) (part:List Nat) (order:List Nat) (rows:List a7) (ends:List Bool):List (Option aa):=[some ⟨123,2,false,[[.vec 6 rows.length, .vec 7 rows.length]]⟩,some ⟨56,1,false,[[.aI 1 (aM part) n]]⟩,some ⟨199,0,false,iM (order.map (fun s=>part.getD s 0))⟩,some ⟨199,1,false,[[.vec 2 0]]⟩,some ⟨3,1,true,aM order⟩,some ⟨56,1,false,[[.vec 4 order.length]]⟩,some ⟨164,1,true,rows.map (fun r=>[.mp (cf r)])⟩,some ⟨4,1,true,ends.map (fun b=>[.v (.bool b)])⟩]
theorem IV {rows:List a7} {ends:List Bool} (ok:PV rows ends) (h0:0<rows.length) (hpt:(cu rows ends).length=rows.length):af Tryz.prog 85 [.vp (gV rows ends)] (gA (cL rows ends (cu rows ends)).rows (cL rows ends (cu rows ends)).ends):=by
 have hN:=ok.n;have hE:=ok.e;have CP:=Ji ok;generalize hpart:cu rows ends=part at CP hpt
 have hA:ba 0 [AV.vp (gV rows ends)]=true:=by simp only [gV,ba,AV.wf,nn,nk,UM]
 have hF:(gA (cL rows ends part).rows (cL rows ends part).ends).wf 0=true:=by simp only [gA,gV,ba,AV.wf,nn,nk,UM]
 generalize hrv:gA (cL rows ends part).rows (cL rows ends part).ends=rv at hF ⊢
 (refine af.nL Tryz.func85 rfl (by kernel_rfl) (by kernel_rfl) rfl hA hF ?_;simp only [Tryz.ntmps85,Tryz.results85,Tc,S6,Nat.reduceAdd,Nat.reduceSub,UN,UO,UP,UQ])
 simp only [gV,hE] at CP hA ⊢
 have eP:(aM part).getD 0 []=[.v (.int .i64 ((part.getD 0 0:Nat):Int))]:=by
  rw [aM,T3,Tq,Tn (by omega),T3,Tn (by omega)];rfl
 repeat (first|(with_reducible first|refine ag.up ?_|refine fun (K:AK) hK=> ?_|refine wE ?_|refine wD ?_|refine wK ?_|refine wF ?_|(refine hK _ ?_;clear hK K))|simp only [go_sem]|with_reducible refine wA ?_|clear hK K)
 refine ab.one CP ?_
 repeat ((fail_if_success (with_reducible refine b5 (i:=4) ?_));first|(with_reducible first|refine ag.up ?_|refine fun (K:AK) hK=> ?_|refine wK ?_|refine wF ?_|(refine hK _ ?_;clear hK K))|simp only [go_sem,eP]|with_reducible refine wA ?_|clear hK K)
 refine ck (eJ (k:=0) (i:=0) (j:=0) 164 1 (by decide) rfl (by decide) rfl rfl) (by kernel_rfl) ?_;simp only [UK,UJ,Tc,S6,Nat.reduceAdd,UP,UQ];refine ck (eJ (k:=0) (i:=0) (j:=1) 4 1 (by decide) rfl (by decide) rfl rfl) (by kernel_rfl) ?_;simp only [UK,UJ,Tc,S6,Nat.reduceAdd,UP,UQ]
 repeat (first|(with_reducible first|refine ag.up ?_|refine fun (K:AK) hK=> ?_|refine wE ?_|refine wD ?_|refine wK ?_|refine wF ?_|(refine hK _ ?_;clear hK K))|simp only [go_sem]|with_reducible refine wA ?_|clear hK K)
 refine bW (ι:=vT) 7 (fun st=>[(6, .v (.int .i64 st.rows.length))]) (fun st=>sa rows.length part st.order st.rows st.ends) (fun st=>rows.length+1 - st.rows.length) (fun st=>Ed rows part st∧gA (mW rows ends part (rows.length+1 - st.rows.length) st).rows (mW rows ends part (rows.length+1 - st.rows.length) st).ends=rv) q0
  ⟨Ge rows part h0,hrv⟩ ?_ ?_
 ·simp only [sa,q0]
  (refine aq ?_ ?_ ?_<;>simp only [aG,UG,UH,UN,UO,bd,bj,AV.v.injEq,Value.int.injEq,Value.bool.injEq,Value.string.injEq,AV.vec.injEq,AV.ptr.injEq,true_or,or_true,false_or,or_false,aa.mk.injEq,forall_eq_apply_imp_iff,forall_eq,forall_eq',go_sem])
  all_goals first|rfl|exact ⟨rfl,rfl⟩|exact ⟨rfl,rfl,rfl⟩|exact ⟨⟨rfl,rfl⟩,rfl⟩|trace_state
 ·rintro st ⟨hok,hrun⟩ K hK;have hol:=mR part hok.nd hok.lt;have hle:=hok.le;have hel:=hok.ends
  have eL: ∀l:List Nat,(aM l).length=l.length:=fun l=>by simp [aM]
  simp only [sa]
  repeat (first|(with_reducible first|refine ag.up ?_|refine fun (K:AK) hK=> ?_|refine wE ?_|refine wD ?_|refine wK ?_|refine wF ?_|(refine hK _ ?_;clear hK K))|simp only [go_sem,eL]|with_reducible refine wA ?_|clear hK K)
  refine fU.part (fun h=> ?_) (fun h=> ?_)
  ·have hlt:st.rows.length<st.order.length:=by (try simp only [bne_iff_ne,ne_eq,bne_eq_false_iff_eq,beq_iff_eq,beq_eq_false_iff_ne,decide_eq_true_eq,decide_eq_false_iff_not,UR,Int.natCast_inj,Int.ofNat_lt,Int.ofNat_le] at h);omega
   have hcu:gN st<rows.length:=hok.lt _ (bM hlt);have eW:=aD (k:=st.rows.length) (by omega)
   have eG:(aM st.order).getD st.rows.length []=[.v (.int .i64 ((gN st:Nat):Int))]:=by
    rw [gN,aM,T3,Tq,Tn hlt,T3,Tn hlt];rfl
   have CS:=By rows ends (gN st);have hlr:=ok.lab _ (Uy hcu);have hln:=ok.len _ (Uy hcu);have hseq:=tL rows ends (gN st) hcu (by omega) (fun p hp=>Nat.le_trans (hlr p hp).1 (by decide)) (ok.jT _ (Uy hcu)) (by omega);simp only [gV,hE] at CS hseq;have hri:=ok.jT _ (Uy hcu)
   have hg:rows.getD (gN st) []=rows[gN st]:=by rw [T3,Tn hcu];rfl
   have hnx:fe rows ends part st=⟨(dz part st.order rows[gN st]).1,st.rows++[(dz part st.order rows[gN st]).2],st.ends++[ends.getD (gN st) false]⟩:=by rw [fe,hg]
   generalize rows[gN st]=row at hlr hln hseq hnx hri hg;rw [show rows.length+1 - st.rows.length=(rows.length - st.rows.length)+1 by omega,mW,if_pos hlt] at hrun
   repeat (first|(with_reducible first|refine ag.up ?_|refine fun (K:AK) hK=> ?_|refine wE ?_|refine wD ?_|refine wK ?_|refine wF ?_|(refine hK _ ?_;clear hK K))|simp only [go_sem,eG,eL,h]|with_reducible refine wA ?_|clear hK K)
   refine ab.one CS ?_
   repeat (first|(with_reducible first|refine ag.up ?_|refine fun (K:AK) hK=> ?_|refine wE ?_|refine wD ?_|refine wK ?_|refine wF ?_|(refine hK _ ?_;clear hK K))|simp only [go_sem]|with_reducible refine wA ?_|clear hK K)
   refine lS hseq 35 (fun k=>sa rows.length part (dz part st.order (row.take k)).1 st.rows st.ends++[some ⟨164,0,false,cf (dz part st.order (row.take k)).2⟩,some ⟨164,1,false,[[.vec 8 0]]⟩]) (fun k=>k<=row.length) (Nat.zero_le _) ?_ ?_ ?_ (by kernel_rfl) (by kernel_rfl) ?_ ?_ ?_
   ·repeat (first|(with_reducible first|refine ag.up ?_|refine fun (K:AK) hK=> ?_|refine wE ?_|refine wD ?_|refine wK ?_|refine wF ?_|(refine hK _ ?_;clear hK K))|simp only [go_sem]|with_reducible refine wA ?_|clear hK K)
   ·simp only [ba,AV.wf,nn,nk,UM]
   ·simp only [sa,UP,UQ,List.take_zero,dz,UH]
    (refine aq ?_ ?_ ?_<;>simp only [aG,UG,UH,UN,UO,bd,bj,AV.v.injEq,Value.int.injEq,Value.bool.injEq,Value.string.injEq,AV.vec.injEq,AV.ptr.injEq,true_or,or_true,false_or,or_false,aa.mk.injEq,forall_eq_apply_imp_iff,forall_eq,forall_eq',go_sem])
    all_goals rfl
   ·intro x hx;obtain ⟨o,_,rfl⟩:=List.mem_map.1 hx
    rfl
   ·intro k x hk hx
    obtain ⟨hkl,hx⟩: ∃h:k<row.length,x=[.v (.string row[k].1), .v (.int .i64 (row[k].2:Nat))]:=by
     obtain ⟨h1,h2⟩:=S7.1 hx;simp only [cf,T1] at h1;exact ⟨h1,by rw [<-h2];simp [cf]⟩
    subst hx;obtain ⟨hz1,hz2⟩:=hlr _ (Uy hkl)
    have eT:(aM part).getD row[k].2 []=[.v (.int .i64 ((part.getD row[k].2 0:Nat):Int))]:=by
     rw [aM,T3,Tq,Tn (by omega),T3,Tn (by omega)];rfl
    have hI:=k9 part st.order (row.take k) row[k];rw [<-List.take_succ_eq_append_getElem hkl,Dq] at hI;obtain ⟨k1,k2,k3,k4,k5,_⟩:=pL part (n:=rows.length) hok.nd hok.lt (row.take k) (fun p hp=>(hlr _ (List.mem_of_mem_take hp)).2);have hdl:=mR part k1 k2
    have hnl:look (dz part st.order (row.take k)).2 row[k].1=none:=nZ.2 fun q=>by
     rw [k5] at q;exact uW (l:=row.map Prod.fst) (pN hri) (i:=k) (by simpa using hkl) (by simpa [List.map_take] using q)
    rcases hqs:dz part st.order (row.take k) with ⟨od,ow⟩
    rw [hqs] at hI k1 k2 k3 k4 k5 hdl hnl;simp only at hI k1 k2 k3 k4 k5 hdl hnl;have eA:=KH (part.getD row[k].2 0) (od.map (fun s=>part.getD s 0));have hqp:(od.map (fun s=>part.getD s 0)).findIdx? (fun y=>part.getD row[k].2 0==y)=zX part od (part.getD row[k].2 0):=rfl;simp only [sa,UP,UQ]
    cases hp:zX part od (part.getD row[k].2 0) with
    | some n=>
     rw [hqp,hp] at eA;rw [hp] at hI;simp only [Option.map_some] at eA hI;have eS:=nE row[k].1 n ow hnl
     repeat (first|(with_reducible first|refine ag.up ?_|refine fun (K:AK) hK=> ?_|refine wE ?_|refine wD ?_|refine wK ?_|refine wF ?_|(refine hK _ ?_;clear hK K))|simp only [go_sem,eT,eA,eS]|with_reducible refine wA ?_|clear hK K)
     simp only [sa,UP,UQ,hI]
     (refine aq ?_ ?_ ?_<;>simp only [aG,UG,UH,UN,UO,bd,bj,AV.v.injEq,Value.int.injEq,Value.bool.injEq,Value.string.injEq,AV.vec.injEq,AV.ptr.injEq,true_or,or_true,false_or,or_false,aa.mk.injEq,forall_eq_apply_imp_iff,forall_eq,forall_eq',go_sem])
    | none=>
     rw [hqp,hp] at eA;rw [hp] at hI;simp only [Option.map_none] at eA hI;have eS:=nE row[k].1 od.length ow hnl;have eK:=KI (part.getD row[k].2 0) (od.map (fun s=>part.getD s 0)) (hqp.trans hp);rw [T1] at eK
     repeat (first|(with_reducible first|refine ag.up ?_|refine fun (K:AK) hK=> ?_|refine wE ?_|refine wD ?_|refine wK ?_|refine wF ?_|(refine hK _ ?_;clear hK K))|simp only [go_sem,eT,eA,eS,eK,eL]|with_reducible refine wA ?_|clear hK K)
     simp only [sa,UP,UQ,hI]
     (refine aq ?_ ?_ ?_<;>simp only [aG,UG,UH,UN,UO,bd,bj,AV.v.injEq,Value.int.injEq,Value.bool.injEq,Value.string.injEq,AV.vec.injEq,AV.ptr.injEq,true_or,or_true,false_or,or_false,aa.mk.injEq,forall_eq_apply_imp_iff,forall_eq,forall_eq',go_sem])
     exact ⟨by rw [Vu];rfl,by simp [aM]⟩
   ·intro _
    have hmr:(cf row).length=row.length:=by simp [cf]
    simp only [hmr,List.take_length];obtain ⟨k1,k2,k3,k4,k5,t,k6⟩:=pL part (n:=rows.length) hok.nd hok.lt row (fun p hp=>(hlr _ hp).2);have hdl:=mR part k1 k2
    rcases hqs:dz part st.order row with ⟨od,ow⟩
    rw [hqs] at k1 k2 k3 k4 k5 k6 hdl hnx;simp only at k1 k2 k3 k4 k5 k6 hdl hnx
    have eG2:(aM od).getD st.rows.length []=[.v (.int .i64 ((gN st:Nat):Int))]:=by
     rw [k6,aM,Vu,cw (by rw [T1];exact hlt)];exact eG
    have eE:(ends.map (fun b=>[AV.v (.bool b)])).getD (gN st) []=[.v (.bool (ends.getD (gN st) false))]:=by
     rw [T3,Tq,Tn (by omega),T3,Tn (by omega)];rfl
    generalize ends.getD (gN st) false=be at eE hnx;simp only [sa,UP,UQ]
    repeat ((fail_if_success (with_reducible refine b5 (i:=17) ?_));first|(with_reducible first|refine ag.up ?_|refine fun (K:AK) hK=> ?_|refine wK ?_|refine wF ?_|(refine hK _ ?_;clear hK K))|simp only [go_sem]|with_reducible refine wA ?_|clear hK K)
    refine ck (tO (k:=9) (i:=0) (j:=0) (by decide) rfl (VQ _) rfl rfl rfl rfl rfl) (by kernel_rfl) ?_;simp only [UK,UJ]
    repeat (first|(with_reducible first|refine ag.up ?_|refine fun (K:AK) hK=> ?_|refine wE ?_|refine wD ?_|refine wK ?_|refine wF ?_|(refine hK _ ?_;clear hK K))|simp only [go_sem,eG2,eE,eL,eW]|with_reducible refine wA ?_|clear hK K)
    have hnok:Ed rows part (fe rows ends part st):=rm rows ends part (fun r hr p hp=>(ok.lab r hr p hp).2) hok hlt;rw [hnx] at hnok hrun
    refine aP.mk ⟨od,st.rows++[ow],st.ends++[be]⟩ ⟨hnok, ?_⟩ ?_ ?_
    ·rw [show rows.length+1 - (vT.rows ⟨od,st.rows++[ow],st.ends++[be]⟩).length=rows.length - st.rows.length by simp only [Tb,Vx];omega];exact hrun
    ·show rows.length+1 - (st.rows++[ow]).length<rows.length+1 - st.rows.length;rw [Tb,Vx];omega
    ·simp only [sa,Tb,Vx,Vu,Vd,List.map_nil]
     (refine aq ?_ ?_ ?_<;>simp only [aG,UG,UH,UN,UO,bd,bj,AV.v.injEq,Value.int.injEq,Value.bool.injEq,Value.string.injEq,AV.vec.injEq,AV.ptr.injEq,true_or,or_true,false_or,or_false,aa.mk.injEq,forall_eq_apply_imp_iff,forall_eq,forall_eq',go_sem])
     all_goals trace_state
  ·have hge:st.rows.length=st.order.length:=by (try simp only [bne_iff_ne,ne_eq,bne_eq_false_iff_eq,beq_iff_eq,beq_eq_false_iff_ne,decide_eq_true_eq,decide_eq_false_iff_not,UR,Int.natCast_inj,Int.ofNat_lt,Int.ofNat_le] at h);omega
   rw [show rows.length+1 - st.rows.length=(rows.length - st.rows.length)+1 by omega,mW,if_neg (by omega)] at hrun;clear h
   repeat ((fail_if_success (with_reducible refine b5 (i:=19) ?_));first|(with_reducible first|refine ag.up ?_|refine fun (K:AK) hK=> ?_|refine wK ?_|refine wF ?_|(refine hK _ ?_;clear hK K))|simp only [go_sem]|with_reducible refine wA ?_|clear hK K)
   refine ck (kH (k:=0) (i:=0) (j:=0) (by decide) rfl (VQ _) rfl rfl rfl rfl (T1 _)) (by kernel_rfl) ?_;simp only [UK,UJ];refine ck (kH (k:=0) (i:=0) (j:=1) (by decide) rfl (VQ _) rfl rfl rfl rfl ((T1 _).trans hel)) (by kernel_rfl) ?_;simp only [UK,UJ]
   repeat (first|(with_reducible first|refine ag.up ?_|refine fun (K:AK) hK=> ?_|refine wE ?_|refine wD ?_|refine wK ?_|refine wF ?_|(refine hK _ ?_;clear hK K))|simp only [go_sem]|with_reducible refine wA ?_|clear hK K)
   rw [<-hrun];simp only [gA,gV,hel];exact IG (nn _ _) (nk _ _)
end
section
open Go.RowKit Go.Shelf
def Ir:Go.Shelf.Ren:=⟨fun|194=>116|n=>n,fun|31=>55|9=>9|3=>3|4=>4|0=>0|n=>n,fun n=>n⟩
theorem wx:Lays.n194 Tryz.prog Ir:={
 mixed:=by kernel_rfl
 f194:=Tryz.func116
 t0:=by kernel_rfl
 a0:=fun w=>by kernel_rfl
 z0:=fun w=>by kernel_rfl
 v0:=fun w=>by kernel_rfl
 t3:=by kernel_rfl
 a3:=fun w=>by kernel_rfl
 z3:=fun w=>by kernel_rfl
 v3:=fun w=>by kernel_rfl
 t4:=by kernel_rfl
 a4:=fun w=>by kernel_rfl
 z4:=fun w=>by kernel_rfl
 v4:=fun w=>by kernel_rfl
 t9:=by kernel_rfl
 a9:=fun w=>by kernel_rfl
 z9:=fun w=>by kernel_rfl
 v9:=fun w=>by kernel_rfl
 t31:=by kernel_rfl
 a31:=fun w=>by kernel_rfl
 z31:=fun w=>by kernel_rfl
 v31:=fun w=>by kernel_rfl }
attribute [local go_sem] Oper.semAt_some
def l7 (l:List XC):List ByteArray:=(l.filter (fun c=>c.kind==1)).map (fun c=>c.label)
theorem CU (l:List XC) (c:XC):l7 (l++[c])=if c.kind=1 then l7 l++[c.label] else l7 l:=by
 by_cases h:c.kind=1<;>simp [l7,h]
theorem xh (l:List XC):(l7 l).length<=l.length:=by
 rw [l7,T1];exact List.length_filter_le _ _
def nX (x:Ex):List (List UInt8):=Go.Lib.compact (((aX x).map (fun s=>s.data.toList)).mergeSort (fun x y=>decide (x<=y)))
def cn (x:Ex):List ByteArray:=(nX x).map (fun l=>⟨l.toArray⟩)
open Go.Sort in
theorem zH (x:Ex) (cx:List Value) (w:World) (hx:dI w x cx) (hok:x.ok) (hR:aB x=true) (hN:(au x).length<=1000000) (hE: ∀L:List XC,L.map XC.sig=(au x).map Ex.sig->l7 L=aX x) :
  Calls Tryz.prog 83 #[.agg cx.toArray] w fun e w'=> ∃v,e = .returned v∧lJ w' (cn x) v∧Below w.heap.size w w'∧ ∀b off n c,v = .slice (some ⟨b,off,none⟩) n c->w.heap.size<=b:=by
 have HRt:=Lib.hid (fun W hb=>hR ▸ rM x cx W (hx.below hb) hok);obtain ⟨k,s,kids⟩:=x;have hx':=hx;rw [dI] at hx;obtain ⟨sv,rfl,hr⟩:=hx;obtain ⟨p,c,rfl, -, -⟩:=hr.shape;refine (callsIn_wide (n:=9)).1 ?_;have HX:=Lib.hid hx';have HO:=Lib.hid hok;have HN:=Lib.hid hN;have HE:=Lib.hid hE;clear hx' hok hN hr hE;obtain ⟨i0,hi,hz0,hz1,hz2⟩:=info_parts IP;have HI:=Lib.hid (show _∧_∧_∧_ from ⟨hi,hz0,hz1,hz2⟩);clear hi hz0 hz1 hz2;refine callsIn_of_wp_marks Tryz.func83 rfl trivial ?_ rfl;simp only [Tryz.ntmps83,List.size_toArray,List.length_cons,List.length_nil,Nat.reduceAdd,Nat.reduceSub,Array.replicate_succ,Array.replicate_zero,List.push_toArray,List.append_toArray,List.nil_append,List.cons_append]
 gi_wp2_with fail
 refine ⟨trivial,(callsIn_wide.2 (HRt.out _ (((Below.refl w.heap.size w).alloc (SY _) _).alloc (by simp) _))).mono ?_⟩;rintro e w1 ⟨rfl,hb1⟩;have HB1:=Lib.hid hb1;clear hb1;have hxb:w1.heap[w.heap.size]? = some (.cells #[.int .i64 k, .string s, .slice p kids.length c] 25 (0,0)):=(HB1.out.block w.heap.size (by simp;omega)).trans (ia (dJ w (.cells #[.int .i64 k, .string s, .slice p kids.length c] 25)) _);have hob:w1.heap[w.heap.size+1]? = some (.cells #[.slice none 0 0] 55 (0,0)):=(HB1.out.block (w.heap.size+1) (by simp)).trans (by have:=dJ (w.alloc (.cells #[.int .i64 k, .string s, .slice p kids.length c] 25)) (.cells #[.slice none 0 0] 55);simpa using this);have hx0:=aj hxb 0;have hx1:=aj hxb 1;have hx2:=aj hxb 2;simp only [Tp,Ud,UD] at hx0 hx1 hx2
 gi_wp2_with fail
 refine ⟨trivial, ?_⟩;refine (callsIn_wide.2 (th _ _ _ _ _ _)).mono ?_;rintro e w' ⟨rfl,rfl⟩
 gi_wp2_with fail
 have hn1:w.heap.size+2<=w1.heap.size:=by simpa using HB1.out.size
 obtain ⟨W0,hW0⟩: ∃W0,w1.alloc (.cells #[.int .i64 k, .string s, .slice p kids.length c] 25)=W0:=⟨_,rfl⟩
 have hs0:W0.heap.size=w1.heap.size+1:=by rw [<-hW0];simp
 have hb01:Below w1.heap.size w1 W0:=by rw [<-hW0];exact (Below.refl _ _).alloc (SY _) _
 have hb0:Below w.heap.size w W0:=cB (cB (((Below.refl w.heap.size w).alloc (SY _) _).alloc (by simp) _) HB1.out) hb01;have hbo:W0.heap[w.heap.size+1]? = some (.cells #[.slice none 0 0] 55 (0,0)):=(hb01.block _ (by omega)).trans hob
 have hbp:W0.heap[w1.heap.size]? = some (.cells #[.int .i64 k, .string s, .slice p kids.length c] 25 (0,0)):=by rw [<-hW0];exact dJ w1 _
 have hseq:=o9 Fence.wide (fun _=>trivial) rfl rfl 8 w.heap.size (w.heap.size+2) w1.heap.size 9 (by decide) _ _ w W0 (SY _) (by omega) HX.out HO.out (.of hb0) hbp;rw [hW0];clear hxb hob hx0 hx1 hx2 hbp
 refine Gn (lb:= #[.pointer (some ⟨w1.heap.size,0,none⟩)]) (gf:=109) rfl (enters_of Tryz.func109 (by kernel_rfl) rfl) hseq (Below.refl _ _) (fun _=>rfl)
  (fun pre W=>(∃v,Boxed W (w.heap.size+1) 55 v∧W.ownsRow w.heap.size 9 1 v (l7 pre).length ((l7 pre).map Value.string)∧True)∧(Below w.heap.size w W∧W0.heap.size<=W.heap.size)) (fun _ _ _=>False)
  (((holdsRow_own w.heap.size (w.heap.size+1) 55 9 1 (fun pre:List XC=>(l7 pre).length) (fun pre=>(l7 pre).map Value.string) (fun _ _=>True)).from _).and ((ownFrom_below (SY _) (by omega)).and (fun _ _ _ _ hs hg _=>Nat.le_trans hs hg.size)))
  (fun _ _ _ _ _ hs _ _=>hs) ⟨⟨_,hbo,World.ownsRow_nil _ _ _ _,trivial⟩,hb0,SY _⟩ 3 (fun c=> #[.int .i64 c.kind, .string c.label, .slice c.ptr c.len c.cap]) 25 (fun _ _ h=>h.2.2) ?assign ?body ?done ?stop
 case assign=>
  intro l x W K hK;simp only [handed,XC.val,UE,UF,UG,UH,UI,UJ,UK];simp only [handed,XC.val,Act.mf,UE,UF,UG,UH,UI,UJ,UK] at hK
  gi_wp2
  exact hK
 case body=>
  rintro l pre x B W hl hrec ⟨⟨v,hv,hrow, -⟩,hB,hsz⟩ hBB hbB hlen;have hvc:=hv.cell;have hvf:=hv.frozen;have hle:=xh pre;have hNN:=HN.out;have hp0:=aj hbB 0;have hp1:=aj hbB 1;simp only [Tp,Ud,UD] at hp0 hp1;have HS:=Lib.hid (CU pre x);have hxl:=x.hl;simp only [handed,Act.mf,UE,UF,UG,UH,UI,UJ,UK]
  by_cases hh:x.kind=1
  ·have HH:=Lib.hid hh;have HV:=Lib.hid hv;have HR:=Lib.hid hrow;have HB:=Lib.hid hB;have HZ:=Lib.hid hsz;clear hv hrow hB hsz
   gi_wp2_with (gi_at_builtin;refine wpListIn_append_own _ rfl _ _ 55 rfl w.heap.size 9 i0 (.string ⟨#[]⟩) 1 16 Tryz.underlying55 HI.out.1 HI.out.2.1 HI.out.2.2.1 HI.out.2.2.2 rfl (by decide) _ _ _ rfl (HR.out.alloc _) ⟨W.heap.size,0,none⟩ 1 1 [.string x.label] rfl rfl (cell_one_new _ _ _) (by simp [Value.oneCell']) (by unfold maxLen;omega) (by omega) (by have:=HB.out.size;simp;omega) ?_;intro v' w1' hown' hgrow _;obtain ⟨g',cap',rfl⟩:=ownsRow_succ hown';obtain ⟨hv1,hv2,hr2,hk2,hb2⟩:=HV.out.appended (by decide) HR.out HB.out.size (VR _) hown' hgrow;have HKP:=Lib.hid (r8 (hi:=w.heap.size+2) HR.out hgrow (VR _) (Nat.lt_succ_self _) (.slice (some ⟨g',0,none⟩) ((l7 pre).length+1) cap'));have hc1:=hv1.cell;have hf1:=hv1.frozen;have HV2:=Lib.hid hv2;have HR2:=Lib.hid hr2;have HK2:=Lib.hid hk2;have HB2:=Lib.hid hb2;clear hv1 hv2 hr2 hk2 hb2 hown' hgrow)
   refine ⟨HK2.out.from _,HKP.out,⟨_,HV2.out, ?_,trivial⟩,HB.out.trans HB2.out,Nat.le_trans HZ.out HK2.out.size⟩;rw [HS.out,if_pos HH.out];simpa using HR2.out
  ·have HH:=Lib.hid hh;have HV:=Lib.hid hv;have HR:=Lib.hid hrow;have HB:=Lib.hid hB;have HZ:=Lib.hid hsz;clear hv hrow hB hsz
   gi_wp2
   refine ⟨KeepsFrom.refl _ _,Kept.refl _ _ _ _,⟨v,HV.out, ?_,trivial⟩,HB.out,HZ.out⟩;rw [HS.out,if_neg HH.out];exact HR.out
 case done=>
  rintro D xs W hD hS ⟨⟨v,hv,hrow, -⟩,hB,hsz⟩ hK;rw [HE.out xs hS] at hrow
  have hne: ¬w.heap.size+1=D:=by omega
  have hvc:=hv.cell;have hvf:=hv.frozen;have hob:W.heap[w.heap.size+1]? = some (.cells #[v] 55 (0,0)):=hv
  have hlen:(aX (.mk k s kids)).length<=1000000:=by
   rw [<-HE.out xs hS];have h1:=xh xs;have h2:=HN.out
   have h3:xs.length=(au (.mk k s kids)).length:=by simpa using congrArg List.length hS
   omega
  have HBw:=Lib.hid hB;have HKw:=Lib.hid hK
  have hD2:w1.heap.size+1<=D:=by omega
  clear hB hK hS hsz hs0 hb01 hb0 hbo hseq
  rcases hrow.2 with ⟨rfl,hz⟩|⟨g,cap,cur,rfl,hgb,hgh,r1,r2,r3,r4⟩
  ·have hnil:aX (.mk k s kids)=[]:=List.eq_nil_of_length_eq_zero hz;have HNil:=Lib.hid hnil;have HOb:=Lib.hid hob;clear hrow hv hob hnil hz
   gi_wp2_with fail
   refine ⟨trivial,(callsIn_wide.2 (AnyM.slices_Sort_string_none lk none 0 _)).mono ?_⟩;rintro e w2 ⟨rfl,rfl⟩
   gi_wp2_with fail
   refine ⟨trivial,(callsIn_wide.2 (Any.slices_Compact_string_empty wx none 0 _)).mono ?_⟩;rintro e w2 ⟨rfl,rfl⟩
   gi_wp2_with fail
   have hKs:=cW HKw.out (b:=w.heap.size+1) (o:=0) (.slice none 0 0) (by omega);refine ⟨by simp, .inl ⟨_,_,rfl,run_takeDeferred hKs, ?_⟩⟩;have hbx:=cV (gC HOb.out (.slice none 0 0)) (.deferred none) (D:=D) hne;have hcf:=aj hbx 0;simp only [Tp,Ud] at hcf
   refine ⟨.slice none 0 0, ?_,_,rfl, ?_, ?_,fun b off n c e=>by cases e⟩
   ·simp [results,Tryz.results83,go_sem,hcf]
   ·have:cn (.mk k s kids)=[]:=by rw [cn,nX,HNil.out,List.map_nil,List.mergeSort_nil];rfl
    rw [this];exact .inl ⟨.inl rfl,rfl⟩
   ·exact ji (HBw.out.setCell (p:=⟨w.heap.size+1,0,none⟩) (VR _) _) (by omega) _ hKs
  ·obtain ⟨nm,hnm⟩: ∃nm:List (List UInt8),(aX (.mk k s kids)).map (fun s=>s.data.toList)=nm:=⟨_,rfl⟩
   have hl1:(aX (.mk k s kids)).length=nm.length:=by rw [<-hnm,T1]
   have hen:(aX (.mk k s kids)).map Value.string=nm.map encStr:=by
    rw [<-hnm,List.map_map];exact List.map_congr_left fun p _=>by simp [encStr]
   have hU:nX (.mk k s kids)=Go.Lib.compact (nm.mergeSort (fun x y=>decide (x<=y))):=by rw [nX,hnm]
   rw [hl1] at hlen;simp only [hl1,hen] at r1 r4 hvc hv hob hrow;rw [Nat.mul_one] at r4;have hgl:g<W.heap.size:=(S5.1 hgh).1
   have hgo:w.heap.size+1≠g:=fun e=>by
    subst e;rw [hob] at hgh;cases hgh
   have hgD:D≠g:=fun e=>by
    subst e;have:=HKw.out;rw [this] at hgh;cases hgh
   have hH:=holds_of_block hgh r4;have CS:=Lib.hid (AnyM.slices_Sort_string lk g 0 cap nm W hH hgl (by omega));have HOb:=Lib.hid hob;have HG:=Lib.hid hgh;have HR:=Lib.hid (show _∧_∧_ from ⟨r1,r2,r3⟩);have HU:=Lib.hid hU;clear hrow hv hob hH r4 hnm hen hU r1 r2 r3 hgh;simp only [hl1];clear hl1
   gi_wp2_with fail
   refine ⟨trivial,(callsIn_wide.2 CS.out).mono ?_⟩;rintro e w2 ⟨rfl,kk,os,rfl⟩;obtain ⟨r1,r2,r3⟩:=HR.out;have hg2:=heap_sorted (n:=kk) (os:=os) (nm.mergeSort (fun x y=>decide (x<=y))).toArray HG.out;have hgr2:=grownBy_sorted (w:=W) (g:=g) (n:=kk) (os:=os) (nm.mergeSort (fun x y=>decide (x<=y))).toArray;have hls:(nm.mergeSort (fun x y=>decide (x<=y))).length=nm.length:=List.length_mergeSort _;have htk:=take_putCells cur (nm.mergeSort (fun x y=>decide (x<=y))) (by rw [hls,r3];omega)
   have hsz2:(putCells encStr 0 (nm.mergeSort (fun x y=>decide (x<=y))).toArray cur).size=cap:=by simp [putCells,r3]
   have hDl:D<W.heap.size:=(S5.1 HKw.out).1;generalize hW2:Go.Sort.grow (putRow encStr (Go.Sort.ahead W kk) g 0 (nm.mergeSort (fun x y=>decide (x<=y))).toArray) os=W2 at *;have hob2:W2.heap[w.heap.size+1]? = some (.cells #[.slice (some ⟨g,0,none⟩) nm.length cap] 55 (0,0)):=(hgr2.block _ (S5.1 HOb.out).1 (by simpa using hgo)).trans HOb.out;have hD3:W2.heap[D]? = some (.deferred (some [])):=(hgr2.block _ hDl (by simpa using hgD)).trans HKw.out;have hB2:Below w.heap.size w W2:=HBw.out.grown hgr2 HBw.out.size (fun j e=>by cases e;exact hgb);have hc2:=aj hob2 0;have hf2:=bY hob2 0;simp only [Tp,Ud] at hc2;have hH2:=holds_of_block hg2 htk;have CC:=Lib.hid (Any.slices_Compact_string wx g 0 cap (nm.mergeSort (fun x y=>decide (x<=y))) W2 hH2 (by omega) (by omega));rw [hls] at CC;have HG2:=Lib.hid hg2;have HOb2:=Lib.hid hob2;have HD3:=Lib.hid hD3;have HB2:=Lib.hid hB2;have HS2:=Lib.hid hsz2;clear hg2 hgr2 htk hsz2 hW2 hob2 hD3 hB2 hH2 HOb HG HKw HBw CS hvc hvf
   gi_wp2_with fail
   refine ⟨trivial,(callsIn_wide.2 CC.out).mono ?_⟩;rintro e w3 ⟨rfl,q,rfl⟩
   have hcl:(nX (.mk k s kids)).length<=nm.length:=by rw [HU.out, <- hls];exact Go.Lib.compact_length_le _
   rw [<-HU.out];generalize hZ:(nX (.mk k s kids)++List.replicate (nm.length - (nX (.mk k s kids)).length) ([]:List UInt8))=Z
   have hZl:Z.length=nm.length:=by rw [<-hZ,List.length_append,List.length_replicate];omega
   have hg3:=heap_sorted (n:=q) (os:= #[]) Z.toArray HG2.out;have hgr3:=grownBy_sorted (w:=W2) (g:=g) (n:=q) (os:= #[]) Z.toArray;have htk:=take_putCells (putCells encStr 0 (nm.mergeSort (fun x y=>decide (x<=y))).toArray cur) Z (by rw [hZl,HS2.out];omega);rw [grow_empty] at hg3 hgr3;have hDl:D<W2.heap.size:=(S5.1 HD3.out).1;generalize putRow encStr (Go.Sort.ahead W2 q) g 0 Z.toArray=W3 at *;have hob3:W3.heap[w.heap.size+1]? = some (.cells #[.slice (some ⟨g,0,none⟩) nm.length cap] 55 (0,0)):=(hgr3.block _ (S5.1 HOb2.out).1 (by simpa using hgo)).trans HOb2.out;have hD4:W3.heap[D]? = some (.deferred (some [])):=(hgr3.block _ hDl (by simpa using hgD)).trans HD3.out;have hB3:Below w.heap.size w W3:=HB2.out.grown hgr3 HB2.out.size (fun j e=>by cases e;exact hgb);have hc3:=aj hob3 0;have hf3:=bY hob3 0;simp only [Tp,Ud] at hc3;have HG3:=Lib.hid hg3;have HOb3:=Lib.hid hob3;have HD4:=Lib.hid hD4;have HB3:=Lib.hid hB3;have HT:=Lib.hid htk;have HZ:=Lib.hid hZ;have HZl:=Lib.hid hZl;clear hg3 hgr3 htk hob3 hD4 hB3 hZ hZl hc2 hf2
   gi_wp2_with fail
   have hKs:=cW HD4.out (b:=w.heap.size+1) (o:=0) (.slice (some ⟨g,0,none⟩) (nX (.mk k s kids)).length cap) (by omega);refine ⟨by simp, .inl ⟨_,_,rfl,run_takeDeferred hKs, ?_⟩⟩;have hbx:=cV (gC HOb3.out (.slice (some ⟨g,0,none⟩) (nX (.mk k s kids)).length cap)) (.deferred none) (D:=D) hne;have hcf:=aj hbx 0;simp only [Tp,Ud] at hcf
   refine ⟨.slice (some ⟨g,0,none⟩) (nX (.mk k s kids)).length cap, ?_,_,rfl, ?_, ?_,fun b off n c e=>by cases e;exact hgb⟩
   ·simp [results,Tryz.results83,go_sem,hcf]
   ·have hg4:=cV (cW HG3.out (b:=w.heap.size+1) (o:=0) (.slice (some ⟨g,0,none⟩) (nX (.mk k s kids)).length cap) hgo.symm) (.deferred none) (D:=D) hgD.symm;refine .inr ⟨g,0,cap,by rw [cn,T1],by rw [cn,T1];omega,r2,fun i x hx=>⟨[.string x],rfl, ?_,trivial⟩⟩;rw [aj hg4]
    have hi:i<(nX (.mk k s kids)).length:=by simpa [cn] using (List.getElem?_eq_some_iff.1 hx).1
    have e1:=congrArg (fun l:List Value=>l[i]?) HT.out
    have hZi:Z[i]? = some (nX (.mk k s kids))[i]:=by rw [<-HZ.out,List.getElem?_append_left hi,Tn hi]
    rw [HZl.out,List.getElem?_take_of_lt (by omega),Array.getElem?_toList,List.getElem?_map,hZi] at e1;rw [Nat.zero_add,Nat.mul_one,e1];rw [cn,List.getElem?_map,Tn hi] at hx;simp only [Option.map_some,Option.some.injEq] at hx;simp [encStr, <- hx]
   ·exact ji (HB3.out.setCell (p:=⟨w.heap.size+1,0,none⟩) (VR _) _) (by omega) _ hKs
 case stop=>
  rintro D c pre W _ _ h _;exact h.elim
end
end Go.Proofs.YtlhhccmopfamhaaGreatDoor
