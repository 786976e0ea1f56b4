/- texts of one claim, one behind the other. -/
import Derived.Test.YtfflpdekojlnmaaGreatDoorWOpenX
import Derived.Test.YtfflpdekojlnmaaGreatDoorWDrawL
import Derived.Test.YtfflpdekojlnmaaGreatDoorWRef02
import Derived.Test.YtfflpdekojlnmaaGreatDoorWAbsV
import Derived.Test.YtfflpdekojlnmaaGreatDoorWDfaA
import Derived.Shelf.Slices.CompactS
import Derived.Lib.RowBridge
set_option linter.unusedSimpArgs false
set_option linter.unusedVariables false
set_option maxRecDepth 100000
set_option maxHeartbeats 16000000
open Bool renaming and_self -> WA, eq_false_or_eq_true -> Wg, and_eq_true -> Vj
open List renaming length_cons -> UD, length_nil -> Ux, cons_append -> WE, nil_append -> Wt, set_cons_zero -> Wb, set_cons_succ -> Wa, take_zero -> WZ, getD_eq_getElem?_getD -> Vq, getElem?_eq_getElem -> UM, length_map -> Vp, map_append -> Wv, map_cons -> Wy, map_nil -> WI, length_append -> UC, push_toArray -> W4, drop_succ_cons -> W5, drop_zero -> W6, take_succ_cons -> W7, replicate_succ -> Wc, getElem?_map -> UP, length_replicate -> W8, take_succ_eq_append_getElem -> WG, getElem_mem -> VU, getElem?_set_ne -> UT, getElem?_eq_some_iff -> Uy, getElem?_set_self -> UU, foldl_nil -> V8, length_singleton -> Wx, getElem?_toArray -> UO, getElem?_cons_zero -> VC, getElem?_cons_succ -> VY, zip_cons_cons -> V5, zip_nil_left -> V6, foldl_cons -> V7, setIfInBounds_toArray -> V9, mem_cons -> VR, not_mem_nil -> Xb, append_nil -> VL, mem_map -> Xc, filter_cons_of_neg -> Xd
open Nat renaming lt_add_one -> WX, zero_lt_one -> WY, zero_le -> UE, le_trans -> Uu, zero_lt_succ -> W9, le_refl -> Ut, le_succ -> Xa, lt_or_ge -> UA
open Option renaming map_some -> U5, getD_none -> Xe, isSome_none -> Xf
open Array renaming getElem?_eq_some_iff -> Uw
open Classical renaming byContradiction -> WD
namespace Go.Proofs.YtfflpdekojlnmaaGreatDoor
open Go.RowKit
theorem xJ {l:List ByteArray} (hn:l.Nodup) {i:Nat} (h:i<l.length):l[i]∉l.take i:=fun q=>by
 obtain ⟨j,hj,e⟩:=List.mem_take_iff_getElem.1 q;exact List.pairwise_iff_getElem.1 hn j i (by omega) h (by omega) e
theorem Iz:bY []=[]:=rfl
def oN (a:List Nat):List AV:=[.aC 1 (aI a) a.length]
theorem nc (n:Nat) (a:List Nat):aV n (oN a)=true:=by simp only [oN,aV,AV.wf,gp,WA]
@[go_sem] theorem QZ (n:Nat) (l:List (List Nat)):bw n (l.map oN)=true:=bB _ (nc n) _
def qV:Option mK->AV
 | some st=> .cI [.vp (gV st.rows st.ends), .v (.bool true)]
 | none=> .cI [.v (.pointer none), .v (.bool false)]
theorem JW (o:Option mK):(qV o).wf 0=true:=by
 cases o with
 | none=>rfl
 | some st=>simp only [qV,AV.wf,aV,gV,pF,pE,WA]
theorem kT (m:BitVec 32):(∀n∈aq m,n<100)∧(aq m).length<=1000:=by
 refine ⟨fun n hn=> ?_, ?_⟩
 ·rw [aq,List.mem_filter,List.mem_range] at hn;omega
 ·have:=List.length_filter_le m.getLsbD (List.range 32)
  rw [List.length_range] at this;rw [aq];omega
theorem oe {s:bP} {a:List Nat} (h:Made (aP s) a):(∀n∈a,n<100)∧a.length<=1000:=by
 rcases h.2 with rfl|⟨cur,l,rfl⟩
 ·simp
 ·exact kT _
def iv (s:bP) (st:mK):List (Option aa):=[some ⟨79,1,false,[[.aC 1 (aI (aq s.la)) (aq s.la).length]]⟩,some ⟨83,0,false,Ga (st.all.map fZ)⟩,none,none,some ⟨79,1,true,st.all.map oN⟩,some ⟨70,2,false,[[.vec 6 st.rows.length, .vec 7 st.rows.length]]⟩,some ⟨84,1,true,st.rows.map (fun r=>[.mp (bY r)])⟩,some ⟨4,1,true,st.ends.map (fun b=>[.v (.bool b)])⟩]
theorem Ou {s:bP} (ok:yl s) (labs:List ByteArray) (hn:labs.Nodup) (hl:labs.length<=1000) (hb:(aq s.la).length<=1000):ar Tryz.prog 34 [.vp (ir s),ba labs] (qV (nC (aP s) s.em (aq s.la) labs)):=by
 have CL:=LB s ok.len;have CE:=IF s ok.len;have CK0:=MO [0] (by simp) (by simp);have e0:aI [0]=[[.v (.int .i64 0)]]:=rfl;rw [e0] at CK0;simp only [UD,Ux,Nat.reduceAdd] at CK0
 have hA:aV 0 [AV.vp (ir s),ba labs]=true:=by simp only [ba,aV,AV.wf,yc,a7,WA]
 have hF:=JW (nC (aP s) s.em (aq s.la) labs);generalize hrv:qV (nC (aP s) s.em (aq s.la) labs)=rv at hF ⊢
 (refine ar.mc Tryz.func34 rfl (by kernel_rfl) (by kernel_rfl) rfl hA hF ?_;simp only [Tryz.ntmps34,Tryz.results34,UD,Ux,Nat.reduceAdd,Nat.reduceSub,List.replicate_succ,List.replicate_zero,WE,Wt])
 (refine aw ?_;intro K hK K hK)
 refine ab.one CL ?_
 (revert K;revert K;refine aw ?_;intro K hK K hK)
 refine ab.J4 CK0 8 rfl (by simp only [go_sem,Nat.reduceLT,Nat.reduceLeDiff,Nat.reduceEqDiff,WX,WY,and_self]) rfl ?_
 repeat ((fail_if_success (with_reducible refine bF (i:=5) ?_));first|(with_reducible first|refine aA.up ?_|refine fun (K:AK) hK=> ?_|(refine hK _ ?_;clear hK K))|simp only [go_sem]|with_reducible refine wA ?_|clear hK K)
 refine bc (dz (k:=4) (i:=0) (j:=0) (by decide) rfl (Nat.zero_lt_succ _) rfl rfl rfl rfl rfl) (by kernel_rfl) ?_;simp only [Wb,Wa,UD,Ux,Nat.reduceAdd,WE,Wt];refine bc (dD (k:=5) (i:=0) (j:=0) 84 1 (by decide) rfl (by decide) rfl rfl) (by kernel_rfl) ?_;simp only [Wb,Wa,UD,Ux,Nat.reduceAdd,WE,Wt];refine bc (dD (k:=5) (i:=0) (j:=1) 4 1 (by decide) rfl (by decide) rfl rfl) (by kernel_rfl) ?_;simp only [Wb,Wa,UD,Ux,Nat.reduceAdd,WE,Wt]
 (revert K;revert K;refine aw ?_;intro K hK)
 refine aQ (ι:=mK) 10 (fun st=>[(8, .vec 4 st.all.length),(10, .v (.int .i64 st.rows.length))]) (iv s) (fun st=>257 - st.rows.length) (fun st=>A0 labs st∧(∀a∈st.all,Made (aP s) a)∧qV (mz (aP s) s.em (aq s.la) labs (257 - st.rows.length) st)=rv) s0
  ⟨L4 labs,fun a ha=>by simp only [s0,List.mem_singleton] at ha;subst ha;exact ⟨by simp, .inl rfl⟩,hrv⟩ ?_ ?_
 ·simp only [iv,s0]
  refine iI ?_ ?_ aj
  ·rfl
  ·exact ⟨rfl,rfl,nc _ _⟩
 ·rintro st ⟨hok,hmade,hrun⟩ K hK;have h257:=hok.max;have hel:=hok.ends;simp only [iv]
  (revert K;revert K;refine aw ?_;intro K hK K hK K hK)
  refine bH.part (fun h=> ?_) (fun h=> ?_)
  ·have hlt:st.rows.length<st.all.length:=by replace h:=bI h;omega
   rw [show 257 - st.rows.length=(256 - st.rows.length)+1 by have:=hok.le;omega,mz,if_pos hlt] at hrun
   ((iterate 3 revert K);refine aM h ?_;iterate 4 intro K hK)
   obtain ⟨hcm,hcl⟩:=oe (hmade _ (aZ (d:=[]) hlt));rw [<-bu] at hcm hcl
   refine aQ (ι:=Nat) 38 (fun i=>[(8, .vec 4 (dr (aP s) (bu st) st.all (labs.take i)).1.length),(13, .undef),(14, .undef),(15, .undef),(16, .undef),(37, .v (.int .i64 i))]) (fun i=>iv s { st with all:=(dr (aP s) (bu st) st.all (labs.take i)).1 }++[some ⟨84,0,false,bY (dr (aP s) (bu st) st.all (labs.take i)).2⟩]) (fun i=>labs.length - i) (fun i=>i<=labs.length) 0 (Nat.zero_le _) ?_ ?_
   ·simp only [iv,WZ,dr,List.foldl_nil,Iz,WE,Wt];refine bo ?_ aj
    all_goals rfl
   ·intro i hi K hK;obtain ⟨k1,k2,k3,k4,k5,t,k6⟩:=rI (aP s) (cur:=bu st) hok.nd (labs.take i);have hmd:=qv (aP s) hmade (cur:=bu st) (labs.take i);have hlk: ∀l,l∉labs.take i->look (dr (aP s) (bu st) st.all (labs.take i)).2 l=none:=fun l hl=>gK.2 fun q=>hl (k5.subset q)
    rcases hRi:dr (aP s) (bu st) st.all (labs.take i) with ⟨al,ro⟩
    rw [hRi] at k1 k2 k3 k4 k5 k6 hmd hlk;simp only at k1 k2 k3 k4 k5 k6 hmd hlk
    have hal:al.length<=2000:=by rw [List.length_take] at k4;omega
    simp only [iv,WE,Wt]
    ((iterate 5 revert K);refine aw ?_;iterate 6 intro K hK)
    refine bH.part (fun h2=> ?_) (fun h2=> ?_)
    ·have hli:i<labs.length:=by replace h2:=bI h2;omega
     have eW:=ak (k:=i) (by omega);have eG:=getD_map encS labs i [] hli
     have eC:(al.map oN).getD st.rows.length []=[.aC 1 (aI (bu st)) (bu st).length]:=by
      have hx:al.getD st.rows.length []=bu st:=by rw [k6,bW hlt];rfl
      rw [Vq,List.getElem?_map,UM (by omega)];rw [Vq,UM (by omega)] at hx;simp only [U5,Option.getD_some] at hx ⊢;rw [hx];rfl
     have hN:=jk (aP s) (bu st) st.all (labs.take i) labs[i];rw [<-List.take_succ_eq_append_getElem hli,hRi,AI] at hN;have CS:=Mb ok (bu st) labs[i] (by omega);obtain ⟨ts,tl⟩:=kT (iw s (fH s (br (bu st))) labs[i]);have CKy:=MO (aP s (bu st) labs[i]) ts (by have:(aP s (bu st) labs[i]).length<=1000:=tl;omega);have tl':(aP s (bu st) labs[i]).length<=1000:=tl;generalize hto:aP s (bu st) labs[i]=to at *;simp only [encS] at eG
     repeat (first|(with_reducible first|refine aA.up ?_|refine fun (K:AK) hK=> ?_|(refine hK _ ?_;clear hK K))|simp only [go_sem,eG,eC,h2]|with_reducible refine wA ?_|clear hK K)
     refine ab.one CS ?_
     ((iterate 8 revert K);refine aw ?_;iterate 7 intro K hK)
     refine bH.part (fun h3=> ?_) (fun h3=> ?_)
     ·have hz:to=[]:=List.eq_nil_of_length_eq_zero (by replace h3:=bI h3;omega);rw [if_pos hz] at hN
      ((iterate 7 revert K);refine aM eW ?_)
      refine az.mk (i+1) (by omega) (by omega) ?_;rw [hN];simp only [iv,WE,Wt];exact aR aj
     ·have hz: ¬to=[]:=fun e=>by subst e;simp at h3
      rw [if_neg hz] at hN;have eA:=Gy (fZ to) (al.map fZ)
      ((iterate 7 revert K);refine aw ?_;iterate 8 intro K hK)
      refine ab.one CKy ?_
      cases hp:pos (al.map fZ) (fZ to) with
      | some k=>
       rw [hp] at hN eA;simp only [U5] at eA hN;have eS:=pT labs[i] k ro (hlk _ (xJ hn hli))
       ((iterate 8 revert K);refine P0 eA eS eW ?_)
       refine az.mk (i+1) (by omega) (by omega) ?_;rw [hN];simp only [iv,WE,Wt];exact aR aj
      | none=>
       rw [hp] at hN eA;simp only [Option.map_none] at eA hN;have eS:=pT labs[i] al.length ro (hlk _ (xJ hn hli));have eK:=GA (fZ to) (al.map fZ) hp;rw [Vp] at eK
       repeat (first|(with_reducible first|refine aA.up ?_|refine fun (K:AK) hK=> ?_|(refine hK _ ?_;clear hK K))|simp only [go_sem,eA,eS,eW]|with_reducible refine wA ?_|clear hK K)
       refine ab.one CKy ?_
       repeat (first|(with_reducible first|refine aA.up ?_|refine fun (K:AK) hK=> ?_|(refine hK _ ?_;clear hK K))|simp only [go_sem,eK,eS,eW]|with_reducible refine wA ?_|clear hK K)
       refine az.mk (i+1) (by omega) (by omega) ?_;rw [hN];simp only [iv,WE,Wt,Wv,Wy,WI,UC,UD,Ux];refine o5 ?_ aj
       all_goals exact ⟨rfl,nc _ _⟩
    ·have hil:i=labs.length:=by replace h2:=bI h2;omega
     rw [hil,List.take_length] at hRi
     have hall:(b6 (aP s) s.em (aq s.la) labs st).all=al:=by rw [b6,hRi]
     have hrow:(b6 (aP s) s.em (aq s.la) labs st).rows=st.rows++[ro]:=by rw [b6,hRi]
     rw [hall] at hrun
     ((iterate 6 revert K);refine aw ?_;iterate 4 intro K hK)
     refine bH.part (fun h3=> ?_) (fun h3=> ?_)
     ·rw [if_pos (by replace h3:=bI h3;omega)] at hrun
      ((iterate 4 revert K);refine aw ?_)
      rw [<-hrun];exact bK.cI ⟨bK.v _,bK.v _,trivial⟩
     ·have h256: ¬ 256<al.length:=by replace h3:=bI h3;omega
      rw [if_neg h256] at hrun
      repeat ((fail_if_success (with_reducible refine bF (i:=24) ?_));first|(with_reducible first|refine aA.up ?_|refine fun (K:AK) hK=> ?_|(refine hK _ ?_;clear hK K))|simp only [go_sem]|with_reducible refine wA ?_|clear hK K)
      refine bc (Ch 11 8 rfl rfl rfl rfl) (by kernel_rfl) ?_;simp only [Wb,Wa]
      repeat ((fail_if_success (with_reducible refine bF (i:=25) ?_));first|(with_reducible first|refine aA.up ?_|refine fun (K:AK) hK=> ?_|(refine hK _ ?_;clear hK K))|simp only [go_sem]|with_reducible refine wA ?_|clear hK K)
      have CF:=q6 (g:=60) [.vp [.aC 1 (aI (aq s.la)) (aq s.la).length]] (by simp only [aV,AV.wf,gp,WA]) (fun n=>(aq s.la).contains n) (bu st) (by omega) (fun n=>H9 (aq s.la) n (by omega))
      have eC:(al.map oN).getD st.rows.length []=[.aC 1 (aI (bu st)) (bu st).length]:=by
       have hx:al.getD st.rows.length []=bu st:=by rw [k6,bW hlt];rfl
       rw [Vq,List.getElem?_map,UM (by omega)];rw [Vq,UM (by omega)] at hx;simp only [U5,Option.getD_some] at hx ⊢;rw [hx];rfl
      have hE:pz s.em (aq s.la) st=(((st.rows.length:Int)==0&&s.em)||(bu st).any (fun n=>(aq s.la).contains n)):=by
       rw [pz];congr 2;rw [Bool.eq_iff_iff,beq_iff_eq,beq_iff_eq];omega
      refine yF ⟨gq 112 [(0, .vp (ir s)),(1, .aC 1 (labs.map encS) labs.length),(4, .v (.pointer none)),(5, .v (.bool false)),(6, .ptr 0 0 1 0 0),(7, .vec 1 0),(8, .vec 4 al.length),(9, .ptr 5 0 2 0 0),(10, .v (.int .i64 st.rows.length))],iv s (b6 (aP s) s.em (aq s.la) labs st), .no⟩ (by kernel_rfl) ?_ ?_
      ·have hO:iv s (b6 (aP s) s.em (aq s.la) labs st)=iv s ⟨al,st.rows++[ro],st.ends++[pz s.em (aq s.la) st]⟩:=by rw [b6,hRi]
       rw [hO]
       rcases (Wg ((st.rows.length:Int)==0)).symm with hZ|hZ
       ·have hE2:pz s.em (aq s.la) st=(bu st).any (fun n=>(aq s.la).contains n):=by rw [hE,hZ,Bool.false_and,Bool.false_or]
        simp only [iv,Wv,Wy,WI,UC,UD,Ux,hE2]
        (refine pV 20 88 9 (by kernel_rfl) (by decide+kernel) (by kernel_rfl) ?_;simp only [ic,Wy,WI,W4,WE,Wt,W5,W6,W7,WZ])
        repeat (first|(with_reducible first|refine aA.up ?_|refine fun (K:AK) hK=> ?_|(refine hK _ ?_;clear hK K))|simp only [go_sem,eC,hZ]|with_reducible refine wA ?_|clear hK K)
        refine bj.J4 CF 20 rfl (by simp only [go_sem,Nat.reduceLT,Nat.reduceLeDiff,Nat.reduceEqDiff,WX,WY,and_self]) rfl ?_
        repeat (first|(with_reducible first|refine aA.up ?_|refine fun (K:AK) hK=> ?_|(refine hK _ ?_;clear hK K))|simp only [go_sem,eC,hZ]|with_reducible refine wA ?_|clear hK K)
        exact aR aj
       ·rcases (Wg s.em).symm with hem|hem
        ·have hE2:pz s.em (aq s.la) st=(bu st).any (fun n=>(aq s.la).contains n):=by rw [hE,hZ,hem];simp
         simp only [iv,Wv,Wy,WI,UC,UD,Ux,hE2]
         (refine pV 20 88 9 (by kernel_rfl) (by decide+kernel) (by kernel_rfl) ?_;simp only [ic,Wy,WI,W4,WE,Wt,W5,W6,W7,WZ])
         ((iterate 3 revert K);refine qL eC hZ ?_;iterate 4 intro K hK)
         refine bj.one CE ?_
         repeat (first|(with_reducible first|refine aA.up ?_|refine fun (K:AK) hK=> ?_|(refine hK _ ?_;clear hK K))|simp only [go_sem,eC,hem]|with_reducible refine wA ?_|clear hK K)
         refine bj.J4 CF 20 rfl (by simp only [go_sem,Nat.reduceLT,Nat.reduceLeDiff,Nat.reduceEqDiff,WX,WY,and_self]) rfl ?_
         repeat (first|(with_reducible first|refine aA.up ?_|refine fun (K:AK) hK=> ?_|(refine hK _ ?_;clear hK K))|simp only [go_sem,eC,hem]|with_reducible refine wA ?_|clear hK K)
         exact aR aj
        ·have hE2:pz s.em (aq s.la) st=true:=by rw [hE,hZ,hem];simp
         simp only [iv,Wv,Wy,WI,UC,UD,Ux,hE2]
         (refine pV 20 88 9 (by kernel_rfl) (by decide+kernel) (by kernel_rfl) ?_;simp only [ic,Wy,WI,W4,WE,Wt,W5,W6,W7,WZ])
         ((iterate 3 revert K);refine qL eC hZ ?_;iterate 4 intro K hK)
         refine bj.one CE ?_
         repeat (first|(with_reducible first|refine aA.up ?_|refine fun (K:AK) hK=> ?_|(refine hK _ ?_;clear hK K))|simp only [go_sem,eC,hem]|with_reducible refine wA ?_|clear hK K)
         exact aR aj
      ·have hlen:(b6 (aP s) s.em (aq s.la) labs st).rows.length=st.rows.length+1:=by rw [hrow,UC,List.length_singleton]
       have eW:=ak (k:=st.rows.length) (by omega);obtain ⟨nx,hnx⟩: ∃nx,nx=b6 (aP s) s.em (aq s.la) labs st:=⟨_,rfl⟩;have hnok:A0 labs nx:=hnx ▸ pA (aP s) s.em (aq s.la) hok hlt (by rw [hall];exact h256);rw [<-hnx] at hrun hlen hall ⊢;simp only [iv];simp only [gq,List.foldl_cons,List.foldl_nil,List.replicate_succ,List.replicate_zero,go_sem]
       ((iterate 3 revert K);refine aM eW ?_)
       refine az.mk nx ⟨hnok,by rw [hall];exact hmd,by rw [hlen,show 257 - (st.rows.length+1)=256 - st.rows.length by omega];exact hrun⟩ (by rw [hlen];have:=hok.le;omega) ?_;simp only [iv,hall,hlen];exact aR aj
  ·have hge:st.rows.length=st.all.length:=by have:=hok.le;replace h:=bI h;omega
   rw [show 257 - st.rows.length=(256 - st.rows.length)+1 by omega,mz,if_neg (by omega)] at hrun;have hel:=hok.ends
   ((iterate 3 revert K);refine aw ?_)
   rw [<-hrun];simp only [qV,gV,hel];exact bK.cI ⟨bK.ptr (ob:=⟨70,2,false,[[.vec 6 st.rows.length, .vec 7 st.rows.length]]⟩) rfl rfl rfl (Nat.succ_ne_zero 1) ⟨bK.Au (ob:=⟨84,1,true,st.rows.map (fun r=>[.mp (bY r)])⟩) rfl rfl (Vp _) (pF _ _),bK.Au (ob:=⟨4,1,true,st.ends.map (fun b=>[.v (.bool b)])⟩) rfl rfl ((Vp _).trans hel) (pE _ _),trivial⟩,bK.v _,trivial⟩
structure RX (rows:List aU) (ends:List Bool):Prop where
 n:rows.length<=256
 e:ends.length=rows.length
 uI: ∀r∈rows,iN (r.map Prod.fst)
 len: ∀r∈rows,r.length<=1000
 lab: ∀r∈rows, ∀p∈r,p.1.size<=1000∧p.2<rows.length
theorem oU (a b:ByteArray):(a++b).size=a.size+b.size:=ByteArray.size_append
theorem w9 (u:Nat) (h:u<1000):(⟨(Lib.decDigits u).toArray⟩:ByteArray).size<=3:=by
 have:=sc u h
 simpa [ByteArray.size] using this
theorem vJ (part:List Nat) (p:Nat):bU part p []=⟨(Lib.decDigits p).toArray⟩:=by simp [bU,tB]
theorem tD (part:List Nat) (p:Nat) (r:aU) (e:ByteArray×Nat):bU part p (r++[e])=bU part p r++(((⟨#[32]⟩++e.1)++⟨#[32]⟩)++⟨(Lib.decDigits (part.getD e.2 0)).toArray⟩):=by
 apply ByteArray.ext
 rw [bU,FD];simp [bU,ByteArray.data_append]
theorem BY (part:List Nat) (p:Nat) (hp:p<1000) (hq: ∀s,part.getD s 0<1000): ∀r:aU,(∀e∈r,e.1.size<=1000)->(bU part p r).size<=3+1005 * r.length:=by
 refine fg ?_ ?_
 ·intro _;rw [vJ];have:=w9 p hp;simpa using this
 ·intro r e ih h;have h1:=ih fun x hx=>h x (List.mem_append_left _ hx);have h2:=h e (by simp);have h3:=w9 _ (hq e.2);have h4:(⟨#[32]⟩:ByteArray).size=1:=rfl;rw [tD,oU,oU,oU,oU,h4,UC,List.length_singleton];omega
theorem rl {l:List Nat} {b:Nat} (hb:0<b) (h: ∀v∈l,v<b) (s:Nat):l.getD s 0<b:=by
 rw [Vq]
 cases hs:l[s]? with
 | none=>simpa using hb
 | some v=>exact h v (List.mem_of_getElem? hs)
theorem Qp (ends:List Bool): ∀v∈p0 ends,v<1000:=fun v hv=>by
 rw [p0,List.mem_map] at hv;obtain ⟨b,_,rfl⟩:=hv
 split<;>omega
theorem LP (rows:List aU) (part:List Nat) (n:Nat) (v:Nat) (hv:v∈(dp rows part n).2):v<(dp rows part n).1.length:=by
 have ok:=gj rows part n;obtain ⟨s,hs,rfl⟩:=List.mem_iff_getElem.1 hv
 have:=(ok.at' s (by have:=ok.len;omega)).1
 rw [Vq,UM hs] at this;exact this
theorem Oc {rows:List aU} (hn:rows.length<=256) (part:List Nat): ∀v∈dJ rows part,v<1000:=fun v hv=>by
 have:=LP rows part rows.length v hv
 have:=(gj rows part rows.length).le
 omega
theorem DI (A:List Nat) (n i v:Nat) (hA:A.length=i) (h:i<n):(aI (A++List.replicate (n - i) 0)).set i [.v (.int .i64 (v:Nat))]=aI ((A++[v])++List.replicate (n - (i+1)) 0):=by
 rw [show n - i=(n - (i+1))+1 by omega,Wc,aI,aI,Wv,Wv,Wv,List.set_append,if_neg (by simp [hA])];simp [hA]
theorem Qc (A:List Nat) (n i:Nat) (hA:A.length=i) (h:i<n):(aI (A++List.replicate (n - i) 0)).getD i []=[.v (.int .i64 0)]:=by
 rw [show n - i=(n - (i+1))+1 by omega,Wc,aI,Wv,Vq,List.getElem?_append_right (by simp [hA])];simp [hA]
theorem Qu (A:List Nat) (n i:Nat) (h:i<n):A++List.replicate (n - i) 0=(A++[0])++List.replicate (n - (i+1)) 0:=by
 rw [show n - i=(n - (i+1))+1 by omega,Wc];simp
def I4 (ends:List Bool) (i:Nat):List (Option aa):=[some ⟨3,1,true,aI (p0 (ends.take i)++List.replicate (ends.length - i) 0)⟩,some ⟨79,1,false,[[.vec 0 ends.length]]⟩]
def qm (n:Nat) (part:List Nat):List (Option aa):=[none,some ⟨79,1,false,[[.aC 1 (aI part) n]]⟩]
def uH (rows:List aU) (part:List Nat) (s:Nat):List (Option aa):=qm rows.length part++[some ⟨83,0,false,Ga (dp rows part s).1⟩,some ⟨3,1,true,aI ((dp rows part s).2++List.replicate (rows.length - s) 0)⟩]
theorem LR {rows:List aU} {ends:List Bool} (ok:RX rows ends):ar Tryz.prog 64 [.vp (gV rows ends)] (.aC 1 (aI (bt rows ends)) rows.length):=by
 have hN:=ok.n;have hE:=ok.e
 have hA:aV 0 [AV.vp (gV rows ends)]=true:=by simp only [gV,aV,AV.wf,pF,pE,Bool.and_self]
 have hF:(AV.aC 1 (aI (bt rows ends)) rows.length).wf 0=true:=by simp only [AV.wf,gp]
 generalize hrv:AV.aC 1 (aI (bt rows ends)) rows.length=rv at hF ⊢
 (refine ar.mc Tryz.func64 rfl (by kernel_rfl) (by kernel_rfl) rfl hA hF ?_;simp only [Tryz.ntmps64,Tryz.results64,List.length_cons,List.length_nil,Nat.reduceAdd,Nat.reduceSub,Wc,List.replicate_zero,WE,Wt])
 simp only [gV]
 repeat (first|(with_reducible first|refine aA.up ?_|refine fun (K:AK) hK=> ?_|refine wE ?_|refine wK ?_|refine wF ?_|(refine hK _ ?_;clear hK K))|simp only [go_sem]|with_reducible refine wA ?_|clear hK K)
 refine aQ (ι:=Nat) 27 (fun i=>[(4, .undef),(5, .undef),(26, .v (.int .i64 i))]) (I4 ends) (fun i=>ends.length - i) (fun i=>i<=ends.length) 0 (UE _) ?_ ?_
 ·have e0:aI (p0 (ends.take 0)++List.replicate (ends.length - 0) 0)=List.replicate rows.length [AV.v (.int .i64 0)]:=by
   rw [hE];simp [p0,aI]
  simp only [I4,e0,hE];refine iI ?_ ?_ aj
  all_goals first|rfl|simp [p0,aI]
 ·intro i hi K hK;simp only [I4]
  (revert K;revert K;refine dO ?_;intro K hK K hK K hK)
  refine bH.part (fun h=> ?_) (fun h=> ?_)
  ·have hlt:i<ends.length:=by replace h:=bI h;omega
   have eW:=ak (k:=i) (by omega)
   have eG:(ends.map (fun b=>[AV.v (.bool b)])).getD i []=[.v (.bool ends[i])]:=by
    rw [Vq,UP,UM hlt];rfl
   have hl0:(p0 (ends.take i)).length=i:=by rw [p0,Vp,List.length_take];omega
   have eL:(aI (p0 (ends.take i)++List.replicate (ends.length - i) 0)).length=ends.length:=by rw [aI,Vp,UC,hl0,W8];omega
   have eN:p0 (ends.take (i+1))=p0 (ends.take i)++[if ends[i] then 1 else 0]:=by rw [p0,p0,WG hlt,Wv];rfl
   rcases (Bool.eq_false_or_eq_true ends[i]).symm with hb|hb
   ·rw [hb] at eG eN;rw [if_neg (by decide)] at eN
    repeat (first|(with_reducible first|refine aA.up ?_|refine fun (K:AK) hK=> ?_|refine wE ?_|refine wK ?_|refine wF ?_|(refine hK _ ?_;clear hK K))|simp only [go_sem,eG,h]|with_reducible refine wA ?_|clear hK K)
    refine kz eW ?_;refine az.mk (i+1) (by omega) (by omega) ?_;simp only [I4,eN, <- Qu _ _ _ hlt];exact aR aj
   ·rw [hb] at eG eN;rw [if_pos rfl] at eN;have eS:=DI (p0 (ends.take i)) ends.length i 1 hl0 hlt;have eS:=DI (p0 (ends.take i)) ends.length i 1 hl0 hlt;have eQ:=Qc (p0 (ends.take i)) ends.length i hl0 hlt;have c1:((1:Nat):Int)=1:=rfl;rw [c1] at eS
    repeat (first|(with_reducible first|refine aA.up ?_|refine fun (K:AK) hK=> ?_|refine wE ?_|refine wK ?_|refine wF ?_|(refine hK _ ?_;clear hK K))|simp only [go_sem,eG,h,eL,eQ,W5,W6,eS]|with_reducible refine wA ?_|clear hK K)
    refine kz eW ?_;refine az.mk (i+1) (by omega) (by omega) ?_;simp only [I4,eN];exact aR aj
    all_goals trace_state
  ·have h16:i=ends.length:=by replace h:=bI h;omega
   have e1:aI (p0 (ends.take i)++List.replicate (ends.length - i) 0)=aI (p0 ends):=by rw [h16,List.take_length,Nat.sub_self];simp
   have l0:(aI (p0 ends)).length=ends.length:=by simp [aI,p0]
   have l1:(p0 ends).length=rows.length:=by simp [p0,hE]
   simp only [e1]
   repeat ((fail_if_success (with_reducible refine bF (i:=8) ?_));first|(with_reducible first|refine aA.up ?_|refine fun (K:AK) hK=> ?_|refine wK ?_|refine wF ?_|(refine hK _ ?_;clear hK K))|simp only [go_sem]|with_reducible refine wA ?_|clear hK K)
   refine bc (dz (k:=1) (i:=0) (j:=0) (by decide) rfl (Nat.zero_lt_succ _) rfl rfl rfl rfl l0) (by kernel_rfl) ?_;simp only [List.set_cons_zero,List.set_cons_succ,hE];clear hi h h16 e1 l0;have hs0: ∃f,rows.length+2<=f+0∧AV.aC 1 (aI (nq rows f (p0 ends) 0)) rows.length=rv:=⟨rows.length+2,Nat.le_refl _,hrv⟩;clear hrv
   (revert K;refine dO ?_;intro K hK)
   refine aQ (ι:=List Nat×Nat) 7 (fun x=>[(4, .undef),(5, .undef),(6, .v (.int .i64 x.2))]) (fun x=>qm rows.length x.1) (fun x=>rows.length+1 - x.2) (fun x=>(∀v∈x.1,v<1000)∧x.2<=rows.length∧OW rows x.1 x.2∧ ∃f,rows.length+2<=f+x.2∧AV.aC 1 (aI (nq rows f x.1 x.2)) rows.length=rv) (p0 ends,0) ⟨Qp ends,UE _,⟨l1,fun k hk=>absurd hk (Nat.not_lt_zero k)⟩,hs0⟩ ?_ ?_
   ·simp only [qm];refine bo ?_ aj
    all_goals rfl
   ·rintro ⟨part,many⟩ ⟨hpl,hml,hpo,f,hf,hfr⟩ K hK;simp only at hpl hml hpo hf hfr;have hpn:=hpo.1;simp only [qm]
    repeat (first|(with_reducible first|refine aA.up ?_|refine fun (K:AK) hK=> ?_|refine wE ?_|refine wK ?_|refine wF ?_|(refine hK _ ?_;clear hK K))|simp only [go_sem]|with_reducible refine wA ?_|clear hK K)
    have z0:List.replicate rows.length [AV.v (.int .i64 0)]=aI (List.replicate rows.length 0):=by simp [aI]
    refine aQ (ι:=Nat) 46 (fun s=>[(9, .undef),(10, .undef),(11, .undef),(12, .undef),(13, .undef),(14, .undef),(45, .v (.int .i64 s))]) (uH rows part) (fun s=>rows.length - s) (fun s=>s<=rows.length) 0 (UE _) ?_ ?_
    ·simp only [uH,qm,WE,Wt];refine iI ?_ ?_ aj
     all_goals first|rfl|exact ⟨rfl,z0⟩|trace_state
    ·intro s hs K hK;have pok:=gj rows part s;simp only [uH,qm,WE,Wt]
     ((iterate 4 revert K);refine dO ?_;iterate 5 intro K hK)
     refine bH.part (fun h=> ?_) (fun h=> ?_)
     ·have hlt:s<rows.length:=by replace h:=bI h;omega
      have eW:=ak (k:=s) (by omega)
      have eG:(aI part).getD s []=[.v (.int .i64 ((part.getD s 0:Nat):Int))]:=by
       rw [aI,Vq,UP,UM (by omega),Vq,UM (by omega)];rfl
      have CI:=Ib (part.getD s 0) (by have:=rl (by omega) hpl s;omega);have CS:=DL rows ends s;have hlr:=ok.lab _ (VU hlt);have hln:=ok.len _ (VU hlt);have hseq:=v7 rows ends s hlt (by omega) (fun p hp=>Nat.le_trans (hlr p hp).1 (by decide)) (ok.uI _ (VU hlt)) (by omega);simp only [gV,hE] at CS hseq;obtain ⟨row,hrow⟩: ∃row,row=rows[s]:=⟨_,rfl⟩;rw [<-hrow] at hlr hln hseq;have hq1:part.getD s 0<1000:=rl (by omega) hpl s
      repeat (first|(with_reducible first|refine aA.up ?_|refine fun (K:AK) hK=> ?_|refine wE ?_|refine wK ?_|refine wF ?_|(refine hK _ ?_;clear hK K))|simp only [go_sem,eG,h]|with_reducible refine wA ?_|clear hK K)
      refine ab.one CI ?_
      ((iterate 7 revert K);refine dO ?_;iterate 8 intro K hK)
      refine ab.one CS ?_
      ((iterate 8 revert K);refine dO ?_;iterate 6 intro K hK)
      refine r6 hseq 58 (fun k=>uH rows part s++[some ⟨9,1,false,[[.v (.string (bU part (part.getD s 0) (row.take k)))]]⟩]) (fun k=>k<=row.length) (UE _) ?_ ?_ ?_ (by kernel_rfl) (by kernel_rfl) ?_ ?_ ?_
      ·((iterate 6 revert K);exact P6)
      ·simp only [aV,AV.wf,pF,pE,Bool.and_self]
      ·simp only [uH,qm,WE,Wt,List.take_zero,vJ];exact aR aj
       all_goals trace_state
      ·intro x hx;obtain ⟨o,_,rfl⟩:=List.mem_map.1 hx
       rfl
      ·intro k x hk hx
       obtain ⟨hkl,hx⟩: ∃h:k<row.length,x=[.v (.string row[k].1), .v (.int .i64 (row[k].2:Nat))]:=by
        obtain ⟨h1,h2⟩:=List.getElem?_eq_some_iff.1 hx;simp only [bY,Vp] at h1;exact ⟨h1,by rw [<-h2];simp [bY]⟩
       subst hx;obtain ⟨hz1,hz2⟩:=hlr _ (VU hkl)
       have eT:(aI part).getD row[k].2 []=[.v (.int .i64 ((part.getD row[k].2 0:Nat):Int))]:=by
        rw [aI,Vq,UP,UM (by omega),Vq,UM (by omega)];rfl
       have hq2:part.getD row[k].2 0<1000:=rl (by omega) hpl _;have CJ:=Ib (part.getD row[k].2 0) (by omega);have hS:=tD part (part.getD s 0) (row.take k) row[k];rw [<-WG hkl] at hS;simp only [uH,qm,WE,Wt];have h32:(⟨#[32]⟩:ByteArray).size=1:=rfl;have hd1:=w9 _ hq2;have hd2:=BY part (part.getD s 0) hq1 (rl (by omega) hpl) (row.take k) (fun e he=>(hlr _ (List.mem_of_mem_take he)).1);rw [List.length_take] at hd2;have b1:(#[32]:Array UInt8).size=1:=rfl;have b2:(Lib.decDigits (part.getD row[k].2 0)).toArray.size<=3:=hd1
       repeat (first|(with_reducible first|refine aA.up ?_|refine fun (K:AK) hK=> ?_|refine wE ?_|refine wK ?_|refine wF ?_|(refine hK _ ?_;clear hK K))|simp only [go_sem,eT]|with_reducible refine wA ?_|clear hK K)
       refine bj.one CJ ?_
       repeat (first|(with_reducible first|refine aA.up ?_|refine fun (K:AK) hK=> ?_|refine wE ?_|refine wK ?_|refine wF ?_|(refine hK _ ?_;clear hK K))|simp only [go_sem,eT]|with_reducible refine wA ?_|clear hK K)
       simp only [uH,qm,WE,Wt,hS];exact aR aj
      ·intro _
       have hmr:(bY row).length=row.length:=by simp [bY]
       simp only [hmr,List.take_length,uH,qm,WE,Wt];have eA:=Gy (bU part (part.getD s 0) row) (dp rows part s).1;have hI:=qk rows part s
       have hg:rows.getD s []=row:=by rw [hrow,Vq,UM hlt];rfl
       rw [Qq,hg] at hI;have l2:=pok.len;have l3:=pok.le
       rcases hps:dp rows part s with ⟨ks,ns⟩
       rw [hps] at hI eA l2 l3;simp only at hI eA l2 l3
       have eL:(aI (ns++List.replicate (rows.length - s) 0)).length=rows.length:=by rw [aI,Vp,UC,l2,W8];omega
       have eQ:=Qc ns rows.length s l2 hlt
       cases hp:pos ks (bU part (part.getD s 0) row) with
       | some k=>
        rw [hp] at hI eA;simp only [Option.map_some] at eA hI;have eS:=DI ns rows.length s k l2 hlt
        repeat (first|(with_reducible first|refine aA.up ?_|refine fun (K:AK) hK=> ?_|refine wE ?_|refine wK ?_|refine wF ?_|(refine hK _ ?_;clear hK K))|simp only [go_sem,eA,eL,eQ,W5,W6,eS]|with_reducible refine wA ?_|clear hK K)
        refine kz eW ?_;refine az.mk (s+1) (by omega) (by omega) ?_;simp only [uH,qm,WE,Wt,hI];exact aR aj
       | none=>
        rw [hp] at hI eA;simp only [Option.map_none] at eA hI;have eS:=DI ns rows.length s ks.length l2 hlt;have eK:=GA (bU part (part.getD s 0) row) ks hp;have eM:=Dp ks
        repeat (first|(with_reducible first|refine aA.up ?_|refine fun (K:AK) hK=> ?_|refine wE ?_|refine wK ?_|refine wF ?_|(refine hK _ ?_;clear hK K))|simp only [go_sem,eA,eL,eQ,W5,W6,eS,eK,eM]|with_reducible refine wA ?_|clear hK K)
        refine kz eW ?_;refine az.mk (s+1) (by omega) (by omega) ?_;simp only [uH,qm,WE,Wt,hI];exact aR aj
     ·have hss:s=rows.length:=by replace h:=bI h;omega
      subst hss;have l2:=pok.len
      have e1:(dp rows part rows.length).2++List.replicate (rows.length - rows.length) 0=dJ rows part:=by rw [Nat.sub_self];simp [dJ]
      have e2:=Dp (dp rows part rows.length).1;have e3:(dp rows part rows.length).1.length=e9 rows part:=rfl;rw [e3] at e2
      have eL:(aI (dJ rows part)).length=rows.length:=by rw [aI,Vp];exact l2
      simp only [e1];have hme:=mr rows part;have hmo:=lg rows hpo
      repeat ((fail_if_success (with_reducible refine bF (i:=26) ?_));first|(with_reducible first|refine aA.up ?_|refine fun (K:AK) hK=> ?_|refine wK ?_|refine wF ?_|(refine hK _ ?_;clear hK K))|simp only [go_sem]|with_reducible refine wA ?_|clear hK K)
      clear hK;clear hK;clear K;clear K
      repeat ((fail_if_success (with_reducible refine bF (i:=26) ?_));first|(with_reducible first|refine aA.up ?_|refine fun (K:AK) hK=> ?_|refine wK ?_|refine wF ?_|(refine hK _ ?_;clear hK K))|simp only [go_sem]|with_reducible refine wA ?_|clear hK K)
      refine bc (dz (k:=1) (i:=0) (j:=0) (by decide) rfl (Nat.zero_lt_succ _) rfl rfl rfl rfl eL) (by kernel_rfl) ?_;simp only [List.set_cons_zero,List.set_cons_succ]
      ((iterate 4 revert K);refine kz e2 ?_;intro K hK K hK K hK)
      refine bH.part (fun h2=> ?_) (fun h2=> ?_)
      ·have hm:e9 rows part=many:=by replace h2:=bI h2;omega
       obtain ⟨f',rfl⟩: ∃f',f=f'+1:=⟨f - 1,by omega⟩;rw [nq,if_pos hm] at hfr
       ((iterate 3 revert K);refine dO ?_)
       rw [<-hfr];exact bK.uK (gp _ _)
      ·have hm:e9 rows part≠many:=by replace h2:=bI h2;omega
       obtain ⟨f',rfl⟩: ∃f',f=f'+1:=⟨f - 1,by omega⟩;rw [nq,if_neg hm] at hfr
       ((iterate 3 revert K);refine kz e2 ?_)
       refine az.mk (dJ rows part,e9 rows part) ⟨Oc hN part,hme,mv rows part,f', ?_,hfr⟩ ?_ ?_
       ·show rows.length+2<=f'+e9 rows part;omega
       ·show rows.length+1 - e9 rows part<rows.length+1 - many;omega
       ·simp only [qm];exact aR aj
section
section
variable {D:Nat->Prop} {nu:Nat->Nat->Value} {o:List (Option aa)} {w:World} {P:Program}
theorem Mh {s:AS} {k i j id len:Nat} {ob:aa} {row:List AV} (x':AV) (hto: ∀(D:Nat->Prop) (nu:Nat->Nat->Value) (w:World),RO D nu s.o w->RA D nu (s.o.set id none) w x' (nu id len)) (hne:id≠k) (hk:s.o[k]? = some (some ob)) (hz:0<ob.z) (hr:ob.rows[i]? = some row) (hj:row[j]? = some (.vec id len)) :
  yq s (AS.mk s.t ((s.o.set id none).set k (some { ob with rows:=ob.rows.set i (row.set j x') })) s.y):=by
 intro f D nu a w hs;have hp:=cV (nu:=nu) (o:=s.o) (w:=w) id;have hro:=kY hs.ro id
 have hk':(s.o.set id none)[k]? = some (some ob):=by rw [UT hne];exact hk
 have hh:ob.hl=({ ob with rows:=ob.rows.set i (row.set j x') }:aa).hl:=by simp [aa.hl]
 obtain ⟨g,cur,hb⟩: ∃g cur,yn D nu (s.o.set id none) w k ob g cur:=by
  rcases hro.obj k ob hk' with ⟨_,e,_⟩|h|⟨g,es,cl,hm⟩
  ·rw [e] at hr;simp at hr
  ·exact h
  ·have:=hm.z;omega
 have hm:=kJ (nu:=nu) (o:=s.o.set id none) (w:=w) (w':=w) (ob':={ ob with rows:=ob.rows.set i (row.set j x') }) hk' hh.symm hb.bA rfl rfl rfl rfl (fun _ _=>rfl);refine ⟨nu,hp.trans hm,rfl, ?_,(hs.tm.mono hp (fun _ _ h=>h)).mono hm (fun _ _ h=>h),hs.js⟩;have hil:=(Uy.1 hr).1;have hjl:=(Uy.1 hj).1;have hsl:=hto D nu w hs.ro
 have key: ∀(i' j':Nat) r c,(ob.rows.set i (row.set j x'))[i']? = some r->r[j']? = some c-> ∃r0 c0,ob.rows[i']? = some r0∧r0[j']? = some c0∧(c=c0∨(c=x'∧c0 = .vec id len)):=by
  intro i' j' r c h1 h2
  by_cases hi:i=i'
  ·subst hi;rw [UU hil] at h1;cases h1
   by_cases hj':j=j'
   ·subst hj';rw [UU hjl] at h2;cases h2;exact ⟨row,_,hr,hj, .inr ⟨rfl,rfl⟩⟩
   ·rw [UT hj'] at h2;exact ⟨row,c,hr,h2, .inl rfl⟩
  ·rw [UT hi] at h1;exact ⟨r,c,h1,h2, .inl rfl⟩
 refine tW hro hk' hh.symm hb.bA hm (fun _ _=>rfl) (cur:=cur) ⟨hb.ew,hb.nj,fun hv'=> ?_,fun hv'=> ?_,hb.z,fun i' r hi'=> ?_,fun i' j' r c x h1 h2 h3=> ?_,fun i' j' r c x h1 h2 h3=> ?_⟩
 ·obtain ⟨q1,q2,q3⟩:=hb.box hv';exact ⟨q1,by simpa using q2,q3⟩
 ·obtain ⟨cap,q1,q2,q3,q4⟩:=hb.vec hv';exact ⟨cap,by simpa using q1,by simpa using q2,q3,q4⟩
 ·by_cases hi:i=i'
  ·subst hi;rw [UU hil] at hi';cases hi';rw [List.length_set];exact hb.row i row hr
  ·rw [UT hi] at hi';exact hb.row i' r hi'
 ·obtain ⟨r0,c0,k1,k2,e⟩:=key i' j' r c h1 h2;have h0:=hb.cell i' j' r0 c0 x k1 k2 h3
  rcases e with rfl|⟨rfl,rfl⟩
  ·exact h0.mono hm (fun _ _ h=>h)
  ·have hx:x=nu id len:=by
    cases h0 with
    | vec=>rfl
   rw [hx];exact hsl.mono hm (fun _ _ h=>h)
 ·obtain ⟨r0,c0,k1,k2,_⟩:=key i' j' r c h1 h2;exact hb.one i' j' r0 c0 x k1 k2 h3
theorem F5 {s:AS} {k i j id:Nat} {ob ob2:aa} {row:List AV} (hne:id≠k) (hk:s.o[k]? = some (some ob)) (hz:0<ob.z) (hr:ob.rows[i]? = some row) (hj:row[j]? = some (.vec id 0)) (ho:s.o[id]? = some (some ob2)) (hv:ob2.fY=false) (hz2:ob2.z=0) :
  yq s (AS.mk s.t ((s.o.set id none).set k (some { ob with rows:=ob.rows.set i (row.set j (.mp ob2.rows)) })) s.y):=Mh (.mp ob2.rows) (fun D nu w h=>IB h ho hv hz2) hne hk hz hr hj
end
def iM (l:List Nat):List (List AV):=l.zipIdx.map (fun p=>[.v (.int .i64 (p.1:Nat)), .v (.int .i64 (p.2:Nat))])
@[go_sem] theorem TL (n:Nat) (l:List Nat):bw n (iM l)=true:=bB _ (fun p=>rfl) _
theorem CG (x:Nat): ∀(l:List Nat) (k:Nat),oL (.int .i64) (.int .i64 (x:Nat)) ((l.zipIdx k).map (fun p=>[.v (.int .i64 (p.1:Nat)), .v (.int .i64 (p.2:Nat))]))=some ((l.findIdx? (fun y=>x==y)).map (fun n=> .v (.int .i64 ((n+k:Nat):Int))))
 | [],k=>rfl
 | a :: l,k=>by
  have ih:=CG x l (k+1);rw [List.zipIdx_cons,Wy,oL,if_pos (show dm (.int .i64) (.int .i64 (a:Nat))=true from rfl)]
  have e:fu (.int .i64 (x:Nat)) (.int .i64 (a:Nat))=(x==a):=by
   rw [fu,Bool.eq_iff_iff,beq_iff_eq,beq_iff_eq];omega
  rw [e,List.findIdx?_cons]
  cases h:x==a
  ·simp only [Bool.false_eq_true,if_false];rw [ih,Option.map_map]
   congr 2;funext i;simp;omega
  ·simp
theorem Nn (x:Nat) (l:List Nat):oL (.int .i64) (.int .i64 (x:Nat)) (iM l)=some ((l.findIdx? (fun y=>x==y)).map (fun n=> .v (.int .i64 (n:Nat)))):=CG x l 0
theorem CO (x:Nat) (v:AV): ∀(l:List Nat) (k:Nat),l.findIdx? (fun y=>x==y)=none->pS (.int .i64) (.int .i64 (x:Nat)) v ((l.zipIdx k).map (fun p=>[.v (.int .i64 (p.1:Nat)), .v (.int .i64 (p.2:Nat))]))=some ((l.zipIdx k).map (fun p=>[.v (.int .i64 (p.1:Nat)), .v (.int .i64 (p.2:Nat))])++[[.v (.int .i64 (x:Nat)),v]])
 | [],k,_=>rfl
 | a :: l,k,h=>by
  rw [List.findIdx?_cons] at h
  have e:fu (.int .i64 (x:Nat)) (.int .i64 (a:Nat))=(x==a):=by
   rw [fu,Bool.eq_iff_iff,beq_iff_eq,beq_iff_eq];omega
  cases hh:x==a
  ·rw [hh] at h;simp only [Bool.false_eq_true,if_false,Option.map_eq_none_iff] at h;have ih:=CO x v l (k+1) h;rw [List.zipIdx_cons,Wy,pS,if_pos (show dm (.int .i64) (.int .i64 (a:Nat))=true from rfl),e,hh,if_neg (by decide),ih];rfl
  ·rw [hh] at h;simp at h
theorem No (x:Nat) (l:List Nat) (h:l.findIdx? (fun y=>x==y)=none):pS (.int .i64) (.int .i64 (x:Nat)) (.v (.int .i64 (l.length:Nat))) (iM l)=some (iM (l++[x])):=by
 rw [iM,CO x _ l 0 h,iM,List.zipIdx_append];simp
theorem K4 {o:List (Option aa)} {z1 l1 z2 l2:Nat} {r1 r2:List (List AV)} (h1:bw 0 r1=true) (h2:bw 0 r2=true):bK o (.agg [.aC z1 r1 l1, .aC z2 r2 l2]) (.agg [.aC z1 r1 l1, .aC z2 r2 l2]):=
 bK.of 5 (p:=(AV.aC z1 r1 l1).wf 0=true∧(AV.aC z2 r2 l2).wf 0=true∧True) (by simp only [gC,fQ]) ⟨by rw [AV.wf];exact h1,by rw [AV.wf];exact h2,trivial⟩
def gA (rows:List aU) (ends:List Bool):AV:= .agg (gV rows ends)
def uF (n:Nat) (part:List Nat) (order:List Nat) (rows:List aU) (ends:List Bool):List (Option aa):=[some ⟨70,2,false,[[.vec 6 rows.length, .vec 7 rows.length]]⟩,some ⟨79,1,false,[[.aC 1 (aI part) n]]⟩,some ⟨108,0,false,iM (order.map (fun s=>part.getD s 0))⟩,some ⟨108,1,false,[[.vec 2 0]]⟩,some ⟨3,1,true,aI order⟩,some ⟨79,1,false,[[.vec 4 order.length]]⟩,some ⟨84,1,true,rows.map (fun r=>[.mp (bY r)])⟩,some ⟨4,1,true,ends.map (fun b=>[.v (.bool b)])⟩]
theorem Ln {rows:List aU} {ends:List Bool} (ok:RX rows ends) (h0:0<rows.length) (hpt:(bt rows ends).length=rows.length):ar Tryz.prog 35 [.vp (gV rows ends)] (gA (cp rows ends (bt rows ends)).rows (cp rows ends (bt rows ends)).ends):=by
 have hN:=ok.n;have hE:=ok.e;have CP:=LR ok;generalize hpart:bt rows ends=part at CP hpt
 have hA:aV 0 [AV.vp (gV rows ends)]=true:=by simp only [gV,aV,AV.wf,pF,pE,WA]
 have hF:(gA (cp rows ends part).rows (cp rows ends part).ends).wf 0=true:=by simp only [gA,gV,aV,AV.wf,pF,pE,WA]
 generalize hrv:gA (cp rows ends part).rows (cp rows ends part).ends=rv at hF ⊢
 (refine ar.mc Tryz.func35 rfl (by kernel_rfl) (by kernel_rfl) rfl hA hF ?_;simp only [Tryz.ntmps35,Tryz.results35,UD,Ux,Nat.reduceAdd,Nat.reduceSub,List.replicate_succ,List.replicate_zero,WE,Wt])
 simp only [gV,hE] at CP hA ⊢
 have eP:(aI part).getD 0 []=[.v (.int .i64 ((part.getD 0 0:Nat):Int))]:=by
  rw [aI,Vq,UP,UM (by omega),Vq,UM (by omega)];rfl
 (refine xn ?_;intro K hK K hK)
 refine ab.one CP ?_
 repeat ((fail_if_success (with_reducible refine bF (i:=4) ?_));first|(with_reducible first|refine aA.up ?_|refine fun (K:AK) hK=> ?_|refine wK ?_|refine wF ?_|(refine hK _ ?_;clear hK K))|simp only [go_sem,eP]|with_reducible refine wA ?_|clear hK K)
 refine bc (dD (k:=0) (i:=0) (j:=0) 84 1 (by decide) rfl (by decide) rfl rfl) (by kernel_rfl) ?_;simp only [Wb,Wa,UD,Ux,Nat.reduceAdd,WE,Wt];refine bc (dD (k:=0) (i:=0) (j:=1) 4 1 (by decide) rfl (by decide) rfl rfl) (by kernel_rfl) ?_;simp only [Wb,Wa,UD,Ux,Nat.reduceAdd,WE,Wt]
 (revert K;revert K;refine xn ?_;intro K hK)
 refine aQ (ι:=wv) 7 (fun st=>[(6, .v (.int .i64 st.rows.length))]) (fun st=>uF rows.length part st.order st.rows st.ends) (fun st=>rows.length+1 - st.rows.length) (fun st=>D7 rows part st∧gA (lV rows ends part (rows.length+1 - st.rows.length) st).rows (lV rows ends part (rows.length+1 - st.rows.length) st).ends=rv) q0
  ⟨Dy rows part h0,hrv⟩ ?_ ?_
 ·simp only [uF,q0];refine iI ?_ ?_ aj
  all_goals first|rfl|exact ⟨rfl,rfl⟩|exact ⟨rfl,rfl,rfl⟩|exact ⟨⟨rfl,rfl⟩,rfl⟩|trace_state
 ·rintro st ⟨hok,hrun⟩ K hK;have hol:=kF part hok.nd hok.lt;have hle:=hok.le;have hel:=hok.ends
  have eL: ∀l:List Nat,(aI l).length=l.length:=fun l=>by simp [aI]
  simp only [uF]
  (revert K;revert K;refine NG eL ?_;intro K hK K hK K hK)
  refine bH.part (fun h=> ?_) (fun h=> ?_)
  ·have hlt:st.rows.length<st.order.length:=by replace h:=bI h;omega
   have hcu:dq st<rows.length:=hok.lt _ (aZ hlt);have eW:=ak (k:=st.rows.length) (by omega)
   have eG:(aI st.order).getD st.rows.length []=[.v (.int .i64 ((dq st:Nat):Int))]:=by
    rw [dq,aI,Vq,UP,UM hlt,Vq,UM hlt];rfl
   have CS:=DL rows ends (dq st);have hlr:=ok.lab _ (VU hcu);have hln:=ok.len _ (VU hcu);have hseq:=v7 rows ends (dq st) hcu (by omega) (fun p hp=>Uu (hlr p hp).1 (by decide)) (ok.uI _ (VU hcu)) (by omega);simp only [gV,hE] at CS hseq;have hri:=ok.uI _ (VU hcu)
   have hg:rows.getD (dq st) []=rows[dq st]:=by rw [Vq,UM hcu];rfl
   have hnx:dQ rows ends part st=⟨(dH part st.order rows[dq st]).1,st.rows++[(dH part st.order rows[dq st]).2],st.ends++[ends.getD (dq st) false]⟩:=by rw [dQ,hg]
   generalize rows[dq st]=row at hlr hln hseq hnx hri hg;rw [show rows.length+1 - st.rows.length=(rows.length - st.rows.length)+1 by omega,lV,if_pos hlt] at hrun
   repeat (first|(with_reducible first|refine aA.up ?_|refine fun (K:AK) hK=> ?_|refine wE ?_|refine wD ?_|refine wK ?_|refine wF ?_|(refine hK _ ?_;clear hK K))|simp only [go_sem,eG,eL,h]|with_reducible refine wA ?_|clear hK K)
   refine ab.one CS ?_
   ((iterate 6 revert K);refine xn ?_;iterate 4 intro K hK)
   refine r6 hseq 35 (fun k=>uF rows.length part (dH part st.order (row.take k)).1 st.rows st.ends++[some ⟨84,0,false,bY (dH part st.order (row.take k)).2⟩,some ⟨84,1,false,[[.vec 8 0]]⟩]) (fun k=>k<=row.length) (Nat.zero_le _) ?_ ?_ ?_ (by kernel_rfl) (by kernel_rfl) ?_ ?_ ?_
   ·((iterate 4 revert K);exact NS)
   ·simp only [aV,AV.wf,pF,pE,WA]
   ·simp only [uF,WE,Wt,List.take_zero,dH,V8];refine o5 ?_ aj
    all_goals rfl
   ·intro x hx;obtain ⟨o,_,rfl⟩:=List.mem_map.1 hx
    rfl
   ·intro k x hk hx
    obtain ⟨hkl,hx⟩: ∃h:k<row.length,x=[.v (.string row[k].1), .v (.int .i64 (row[k].2:Nat))]:=by
     obtain ⟨h1,h2⟩:=Uy.1 hx;simp only [bY,Vp] at h1;exact ⟨h1,by rw [<-h2];simp [bY]⟩
    subst hx;obtain ⟨hz1,hz2⟩:=hlr _ (VU hkl)
    have eT:(aI part).getD row[k].2 []=[.v (.int .i64 ((part.getD row[k].2 0:Nat):Int))]:=by
     rw [aI,Vq,UP,UM (by omega),Vq,UM (by omega)];rfl
    have hI:=kG part st.order (row.take k) row[k];rw [<-List.take_succ_eq_append_getElem hkl,Dz] at hI;obtain ⟨k1,k2,k3,k4,k5,_⟩:=rD part (n:=rows.length) hok.nd hok.lt (row.take k) (fun p hp=>(hlr _ (List.mem_of_mem_take hp)).2);have hdl:=kF part k1 k2
    have hnl:look (dH part st.order (row.take k)).2 row[k].1=none:=gK.2 fun q=>by
     rw [k5] at q;exact xJ (l:=row.map Prod.fst) (lp hri) (i:=k) (by simpa using hkl) (by simpa [List.map_take] using q)
    rcases hqs:dH part st.order (row.take k) with ⟨od,ow⟩
    rw [hqs] at hI k1 k2 k3 k4 k5 hdl hnl;simp only at hI k1 k2 k3 k4 k5 hdl hnl;have eA:=Nn (part.getD row[k].2 0) (od.map (fun s=>part.getD s 0));have hqp:(od.map (fun s=>part.getD s 0)).findIdx? (fun y=>part.getD row[k].2 0==y)=iD part od (part.getD row[k].2 0):=rfl;simp only [uF,WE,Wt]
    cases hp:iD part od (part.getD row[k].2 0) with
    | some n=>
     rw [hqp,hp] at eA;rw [hp] at hI;simp only [Option.map_some] at eA hI;have eS:=pT row[k].1 n ow hnl
     repeat (first|(with_reducible first|refine aA.up ?_|refine fun (K:AK) hK=> ?_|refine wE ?_|refine wD ?_|refine wK ?_|refine wF ?_|(refine hK _ ?_;clear hK K))|simp only [go_sem,eT,eA,eS]|with_reducible refine wA ?_|clear hK K)
     simp only [uF,WE,Wt,hI];exact aR aj
    | none=>
     rw [hqp,hp] at eA;rw [hp] at hI;simp only [Option.map_none] at eA hI;have eS:=pT row[k].1 od.length ow hnl;have eK:=No (part.getD row[k].2 0) (od.map (fun s=>part.getD s 0)) (hqp.trans hp);rw [Vp] at eK
     repeat (first|(with_reducible first|refine aA.up ?_|refine fun (K:AK) hK=> ?_|refine wE ?_|refine wD ?_|refine wK ?_|refine wF ?_|(refine hK _ ?_;clear hK K))|simp only [go_sem,eT,eA,eS,eK,eL]|with_reducible refine wA ?_|clear hK K)
     simp only [uF,WE,Wt,hI];refine o5 ?_ aj;exact ⟨by rw [Wv];rfl,by simp [aI]⟩
   ·intro _
    have hmr:(bY row).length=row.length:=by simp [bY]
    simp only [hmr,List.take_length];obtain ⟨k1,k2,k3,k4,k5,t,k6⟩:=rD part (n:=rows.length) hok.nd hok.lt row (fun p hp=>(hlr _ hp).2);have hdl:=kF part k1 k2
    rcases hqs:dH part st.order row with ⟨od,ow⟩
    rw [hqs] at k1 k2 k3 k4 k5 k6 hdl hnx;simp only at k1 k2 k3 k4 k5 k6 hdl hnx
    have eG2:(aI od).getD st.rows.length []=[.v (.int .i64 ((dq st:Nat):Int))]:=by
     rw [k6,aI,Wv,bW (by rw [Vp];exact hlt)];exact eG
    have eE:(ends.map (fun b=>[AV.v (.bool b)])).getD (dq st) []=[.v (.bool (ends.getD (dq st) false))]:=by
     rw [Vq,UP,UM (by omega),Vq,UM (by omega)];rfl
    generalize ends.getD (dq st) false=be at eE hnx;simp only [uF,WE,Wt]
    repeat ((fail_if_success (with_reducible refine bF (i:=17) ?_));first|(with_reducible first|refine aA.up ?_|refine fun (K:AK) hK=> ?_|refine wK ?_|refine wF ?_|(refine hK _ ?_;clear hK K))|simp only [go_sem]|with_reducible refine wA ?_|clear hK K)
    refine bc (F5 (k:=9) (i:=0) (j:=0) (by decide) rfl (W9 _) rfl rfl rfl rfl rfl) (by kernel_rfl) ?_;simp only [Wb,Wa]
    repeat (first|(with_reducible first|refine aA.up ?_|refine fun (K:AK) hK=> ?_|refine wE ?_|refine wD ?_|refine wK ?_|refine wF ?_|(refine hK _ ?_;clear hK K))|simp only [go_sem,eG2,eE,eL,eW]|with_reducible refine wA ?_|clear hK K)
    have hnok:D7 rows part (dQ rows ends part st):=ph rows ends part (fun r hr p hp=>(ok.lab r hr p hp).2) hok hlt;rw [hnx] at hnok hrun
    refine az.mk ⟨od,st.rows++[ow],st.ends++[be]⟩ ⟨hnok, ?_⟩ ?_ ?_
    ·rw [show rows.length+1 - (wv.rows ⟨od,st.rows++[ow],st.ends++[be]⟩).length=rows.length - st.rows.length by simp only [UC,Wx];omega];exact hrun
    ·show rows.length+1 - (st.rows++[ow]).length<rows.length+1 - st.rows.length;rw [UC,Wx];omega
    ·simp only [uF,UC,Wx,Wv,Wy,List.map_nil];exact aR aj
     all_goals trace_state
  ·have hge:st.rows.length=st.order.length:=by replace h:=bI h;omega
   rw [show rows.length+1 - st.rows.length=(rows.length - st.rows.length)+1 by omega,lV,if_neg (by omega)] at hrun;clear h
   repeat ((fail_if_success (with_reducible refine bF (i:=19) ?_));first|(with_reducible first|refine aA.up ?_|refine fun (K:AK) hK=> ?_|refine wK ?_|refine wF ?_|(refine hK _ ?_;clear hK K))|simp only [go_sem]|with_reducible refine wA ?_|clear hK K)
   refine bc (dz (k:=0) (i:=0) (j:=0) (by decide) rfl (W9 _) rfl rfl rfl rfl (Vp _)) (by kernel_rfl) ?_;simp only [Wb,Wa];refine bc (dz (k:=0) (i:=0) (j:=1) (by decide) rfl (W9 _) rfl rfl rfl rfl ((Vp _).trans hel)) (by kernel_rfl) ?_;simp only [Wb,Wa]
   (revert K;refine xn ?_)
   rw [<-hrun];simp only [gA,gV,hel];exact K4 (pF _ _) (pE _ _)
open Go.RowKit Go.Shelf
def KO:Go.Shelf.Ren:=⟨fun|194=>56|n=>n,fun|31=>26|9=>9|3=>3|4=>4|0=>0|n=>n,fun n=>n⟩
theorem yN:Lays.n194 Tryz.prog KO:={
 mixed:=by kernel_rfl
 f194:=Tryz.func56
 t0:=by kernel_rfl
 a0:=fun w=>by kernel_rfl
 z0:=fun w=>by kernel_rfl
 v0:=fun w=>by kernel_rfl
 t3:=by kernel_rfl
 a3:=fun w=>by kernel_rfl
 z3:=fun w=>by kernel_rfl
 v3:=fun w=>by kernel_rfl
 t4:=by kernel_rfl
 a4:=fun w=>by kernel_rfl
 z4:=fun w=>by kernel_rfl
 v4:=fun w=>by kernel_rfl
 t9:=by kernel_rfl
 a9:=fun w=>by kernel_rfl
 z9:=fun w=>by kernel_rfl
 v9:=fun w=>by kernel_rfl
 t31:=by kernel_rfl
 a31:=fun w=>by kernel_rfl
 z31:=fun w=>by kernel_rfl
 v31:=fun w=>by kernel_rfl }
attribute [local go_sem] Oper.semAt_some
def n3 (l:List XC):List ByteArray:=(l.filter (fun c=>c.kind==1)).map (fun c=>c.label)
theorem Ff (l:List XC) (c:XC):n3 (l++[c])=if c.kind=1 then n3 l++[c.label] else n3 l:=by
 by_cases h:c.kind=1<;>simp [n3,h]
theorem zq (l:List XC):(n3 l).length<=l.length:=by
 rw [n3,Vp];exact List.length_filter_le _ _
def qf (x:Ex):List (List UInt8):=Go.Lib.compact (((aB x).map (fun s=>s.data.toList)).mergeSort (fun x y=>decide (x<=y)))
def bT (x:Ex):List ByteArray:=(qf x).map (fun l=>⟨l.toArray⟩)
open Go.Sort in
theorem BQ (x:Ex) (cx:List Value) (w:World) (hx:dt w x cx) (hok:x.ok) (hR:ay x=true) (hN:(ah x).length<=1000000) (hE: ∀L:List XC,L.map XC.sig=(ah x).map Ex.sig->n3 L=aB x) :
  Calls Tryz.prog 33 #[.agg cx.toArray] w fun e w'=> ∃v,e = .returned v∧jY w' (bT x) v∧Below w.heap.size w w'∧ ∀b off n c,v = .slice (some ⟨b,off,none⟩) n c->w.heap.size<=b:=by
 have HRt:=Lib.hid (fun W hb=>hR ▸ um x cx W (hx.below hb) hok);obtain ⟨k,s,kids⟩:=x;have hx':=hx;rw [dt] at hx;obtain ⟨sv,rfl,hr⟩:=hx;obtain ⟨p,c,rfl, -, -⟩:=hr.shape;refine (callsIn_wide (n:=9)).1 ?_;have HX:=Lib.hid hx';have HO:=Lib.hid hok;have HN:=Lib.hid hN;have HE:=Lib.hid hE;clear hx' hok hN hr hE;obtain ⟨i0,hi,hz0,hz1,hz2⟩:=info_parts Lb;have HI:=Lib.hid (show _∧_∧_∧_ from ⟨hi,hz0,hz1,hz2⟩);clear hi hz0 hz1 hz2;refine callsIn_of_wp_marks Tryz.func33 rfl trivial ?_ rfl;simp only [Tryz.ntmps33,List.size_toArray,UD,Ux,Nat.reduceAdd,Nat.reduceSub,Array.replicate_succ,Array.replicate_zero,List.push_toArray,List.append_toArray,Wt,WE]
 gi_wp2_with fail
 refine ⟨trivial,(callsIn_wide.2 (HRt.out _ (((Below.refl w.heap.size w).alloc (Ut _) _).alloc (by simp) _))).mono ?_⟩;rintro e w1 ⟨rfl,hb1⟩;have HB1:=Lib.hid hb1;clear hb1;have hxb:w1.heap[w.heap.size]? = some (.cells #[.int .i64 k, .string s, .slice p kids.length c] 25 (0,0)):=(HB1.out.block w.heap.size (by simp;omega)).trans (jL (e7 w (.cells #[.int .i64 k, .string s, .slice p kids.length c] 25)) _);have hob:w1.heap[w.heap.size+1]? = some (.cells #[.slice none 0 0] 26 (0,0)):=(HB1.out.block (w.heap.size+1) (by simp)).trans (by have:=e7 (w.alloc (.cells #[.int .i64 k, .string s, .slice p kids.length c] 25)) (.cells #[.slice none 0 0] 26);simpa using this);have hx0:=aH hxb 0;have hx1:=aH hxb 1;have hx2:=aH hxb 2;simp only [UO,VC,VY] at hx0 hx1 hx2
 gi_wp2_with fail
 refine ⟨trivial, ?_⟩;refine (callsIn_wide.2 (vL _ _ _ _ _ _)).mono ?_;rintro e w' ⟨rfl,rfl⟩
 gi_wp2_with fail
 have hn1:w.heap.size+2<=w1.heap.size:=by simpa using HB1.out.size
 obtain ⟨W0,hW0⟩: ∃W0,w1.alloc (.cells #[.int .i64 k, .string s, .slice p kids.length c] 25)=W0:=⟨_,rfl⟩
 have hs0:W0.heap.size=w1.heap.size+1:=by rw [<-hW0];simp
 have hb01:Below w1.heap.size w1 W0:=by rw [<-hW0];exact (Below.refl _ _).alloc (Ut _) _
 have hb0:Below w.heap.size w W0:=b9 (b9 (((Below.refl w.heap.size w).alloc (Ut _) _).alloc (by simp) _) HB1.out) hb01;have hbo:W0.heap[w.heap.size+1]? = some (.cells #[.slice none 0 0] 26 (0,0)):=(hb01.block _ (by omega)).trans hob
 have hbp:W0.heap[w1.heap.size]? = some (.cells #[.int .i64 k, .string s, .slice p kids.length c] 25 (0,0)):=by rw [<-hW0];exact e7 w1 _
 have hseq:=qR Fence.wide (fun _=>trivial) rfl rfl 8 w.heap.size (w.heap.size+2) w1.heap.size 9 (by decide) _ _ w W0 (Ut _) (by omega) HX.out HO.out (.of hb0) hbp;rw [hW0];clear hxb hob hx0 hx1 hx2 hbp
 refine Jf (lb:= #[.pointer (some ⟨w1.heap.size,0,none⟩)]) (gf:=74) rfl (enters_of Tryz.func74 (by kernel_rfl) rfl) hseq (Below.refl _ _) (fun _=>rfl)
  (fun pre W=>(∃v,Boxed W (w.heap.size+1) 26 v∧W.ownsRow w.heap.size 9 1 v (n3 pre).length ((n3 pre).map Value.string)∧True)∧(Below w.heap.size w W∧W0.heap.size<=W.heap.size)) (fun _ _ _=>False)
  (((holdsRow_own w.heap.size (w.heap.size+1) 26 9 1 (fun pre:List XC=>(n3 pre).length) (fun pre=>(n3 pre).map Value.string) (fun _ _=>True)).from _).and ((ownFrom_below (Ut _) (by omega)).and (fun _ _ _ _ hs hg _=>Uu hs hg.size)))
  (fun _ _ _ _ _ hs _ _=>hs) ⟨⟨_,hbo,World.ownsRow_nil _ _ _ _,trivial⟩,hb0,Ut _⟩ 3 (fun c=> #[.int .i64 c.kind, .string c.label, .slice c.ptr c.len c.cap]) 25 (fun _ _ h=>h.2.2) ?assign ?body ?done ?stop
 case assign=>
  intro l x W K hK;simp only [handed,XC.val,V5,V6,V7,V8,V9,Wa,Wb];simp only [handed,XC.val,Act.ov,V5,V6,V7,V8,V9,Wa,Wb] at hK
  gi_wp2
  exact hK
 case body=>
  rintro l pre x B W hl hrec ⟨⟨v,hv,hrow, -⟩,hB,hsz⟩ hBB hbB hlen;have hvc:=hv.cell;have hvf:=hv.frozen;have hle:=zq pre;have hNN:=HN.out;have hp0:=aH hbB 0;have hp1:=aH hbB 1;simp only [UO,VC,VY] at hp0 hp1;have HS:=Lib.hid (Ff pre x);have hxl:=x.hl;simp only [handed,Act.ov,V5,V6,V7,V8,V9,Wa,Wb]
  by_cases hh:x.kind=1
  ·have HH:=Lib.hid hh;have HV:=Lib.hid hv;have HR:=Lib.hid hrow;have HB:=Lib.hid hB;have HZ:=Lib.hid hsz;clear hv hrow hB hsz
   gi_wp2_with (gi_at_builtin;refine wpListIn_append_own _ rfl _ _ 26 rfl w.heap.size 9 i0 (.string ⟨#[]⟩) 1 16 Tryz.underlying26 HI.out.1 HI.out.2.1 HI.out.2.2.1 HI.out.2.2.2 rfl (by decide) _ _ _ rfl (HR.out.alloc _) ⟨W.heap.size,0,none⟩ 1 1 [.string x.label] rfl rfl (cell_one_new _ _ _) (by simp [Value.oneCell']) (by unfold maxLen;omega) (by omega) (by have:=HB.out.size;simp;omega) ?_;intro v' w1' hown' hgrow _;obtain ⟨g',cap',rfl⟩:=ownsRow_succ hown';obtain ⟨hv1,hv2,hr2,hk2,hb2⟩:=HV.out.appended (by decide) HR.out HB.out.size (Xa _) hown' hgrow;have HKP:=Lib.hid (uC (hi:=w.heap.size+2) HR.out hgrow (Xa _) (Nat.lt_succ_self _) (.slice (some ⟨g',0,none⟩) ((n3 pre).length+1) cap'));have hc1:=hv1.cell;have hf1:=hv1.frozen;have HV2:=Lib.hid hv2;have HR2:=Lib.hid hr2;have HK2:=Lib.hid hk2;have HB2:=Lib.hid hb2;clear hv1 hv2 hr2 hk2 hb2 hown' hgrow)
   refine ⟨HK2.out.from _,HKP.out,⟨_,HV2.out, ?_,trivial⟩,HB.out.trans HB2.out,Uu HZ.out HK2.out.size⟩;rw [HS.out,if_pos HH.out];simpa using HR2.out
  ·have HH:=Lib.hid hh;have HV:=Lib.hid hv;have HR:=Lib.hid hrow;have HB:=Lib.hid hB;have HZ:=Lib.hid hsz;clear hv hrow hB hsz
   gi_wp2
   refine ⟨KeepsFrom.refl _ _,Kept.refl _ _ _ _,⟨v,HV.out, ?_,trivial⟩,HB.out,HZ.out⟩;rw [HS.out,if_neg HH.out];exact HR.out
 case done=>
  rintro D xs W hD hS ⟨⟨v,hv,hrow, -⟩,hB,hsz⟩ hK;rw [HE.out xs hS] at hrow
  have hne: ¬w.heap.size+1=D:=by omega
  have hvc:=hv.cell;have hvf:=hv.frozen;have hob:W.heap[w.heap.size+1]? = some (.cells #[v] 26 (0,0)):=hv
  have hlen:(aB (.mk k s kids)).length<=1000000:=by
   rw [<-HE.out xs hS];have h1:=zq xs;have h2:=HN.out
   have h3:xs.length=(ah (.mk k s kids)).length:=by simpa using congrArg List.length hS
   omega
  have HBw:=Lib.hid hB;have HKw:=Lib.hid hK
  have hD2:w1.heap.size+1<=D:=by omega
  clear hB hK hS hsz hs0 hb01 hb0 hbo hseq
  rcases hrow.2 with ⟨rfl,hz⟩|⟨g,cap,cur,rfl,hgb,hgh,r1,r2,r3,r4⟩
  ·have hnil:aB (.mk k s kids)=[]:=List.eq_nil_of_length_eq_zero hz;have HNil:=Lib.hid hnil;have HOb:=Lib.hid hob;clear hrow hv hob hnil hz
   gi_wp2_with fail
   refine ⟨trivial,(callsIn_wide.2 (AnyM.slices_Sort_string_none mZ none 0 _)).mono ?_⟩;rintro e w2 ⟨rfl,rfl⟩
   gi_wp2_with fail
   refine ⟨trivial,(callsIn_wide.2 (Any.slices_Compact_string_empty yN none 0 _)).mono ?_⟩;rintro e w2 ⟨rfl,rfl⟩
   gi_wp2_with fail
   have hKs:=dv HKw.out (b:=w.heap.size+1) (o:=0) (.slice none 0 0) (by omega);refine ⟨by simp, .inl ⟨_,_,rfl,run_takeDeferred hKs, ?_⟩⟩;have hbx:=du (jh HOb.out (.slice none 0 0)) (.deferred none) (D:=D) hne;have hcf:=aH hbx 0;simp only [UO,VC] at hcf
   refine ⟨.slice none 0 0, ?_,_,rfl, ?_, ?_,fun b off n c e=>by cases e⟩
   ·simp [results,Tryz.results33,go_sem,hcf]
   ·have:bT (.mk k s kids)=[]:=by rw [bT,qf,HNil.out,List.map_nil,List.mergeSort_nil];rfl
    rw [this];exact .inl ⟨.inl rfl,rfl⟩
   ·exact kR (HBw.out.setCell (p:=⟨w.heap.size+1,0,none⟩) (Xa _) _) (by omega) _ hKs
  ·obtain ⟨nm,hnm⟩: ∃nm:List (List UInt8),(aB (.mk k s kids)).map (fun s=>s.data.toList)=nm:=⟨_,rfl⟩
   have hl1:(aB (.mk k s kids)).length=nm.length:=by rw [<-hnm,Vp]
   have hen:(aB (.mk k s kids)).map Value.string=nm.map encStr:=by
    rw [<-hnm,List.map_map];exact List.map_congr_left fun p _=>by simp [encStr]
   have hU:qf (.mk k s kids)=Go.Lib.compact (nm.mergeSort (fun x y=>decide (x<=y))):=by rw [qf,hnm]
   rw [hl1] at hlen;simp only [hl1,hen] at r1 r4 hvc hv hob hrow;rw [Nat.mul_one] at r4;have hgl:g<W.heap.size:=(Uw.1 hgh).1
   have hgo:w.heap.size+1≠g:=fun e=>by
    subst e;rw [hob] at hgh;cases hgh
   have hgD:D≠g:=fun e=>by
    subst e;have:=HKw.out;rw [this] at hgh;cases hgh
   have hH:=holds_of_block hgh r4;have CS:=Lib.hid (AnyM.slices_Sort_string mZ g 0 cap nm W hH hgl (by omega));have HOb:=Lib.hid hob;have HG:=Lib.hid hgh;have HR:=Lib.hid (show _∧_∧_ from ⟨r1,r2,r3⟩);have HU:=Lib.hid hU;clear hrow hv hob hH r4 hnm hen hU r1 r2 r3 hgh;simp only [hl1];clear hl1
   gi_wp2_with fail
   refine ⟨trivial,(callsIn_wide.2 CS.out).mono ?_⟩;rintro e w2 ⟨rfl,kk,os,rfl⟩;obtain ⟨r1,r2,r3⟩:=HR.out;have hg2:=heap_sorted (n:=kk) (os:=os) (nm.mergeSort (fun x y=>decide (x<=y))).toArray HG.out;have hgr2:=grownBy_sorted (w:=W) (g:=g) (n:=kk) (os:=os) (nm.mergeSort (fun x y=>decide (x<=y))).toArray;have hls:(nm.mergeSort (fun x y=>decide (x<=y))).length=nm.length:=List.length_mergeSort _;have htk:=take_putCells cur (nm.mergeSort (fun x y=>decide (x<=y))) (by rw [hls,r3];omega)
   have hsz2:(putCells encStr 0 (nm.mergeSort (fun x y=>decide (x<=y))).toArray cur).size=cap:=by simp [putCells,r3]
   have hDl:D<W.heap.size:=(Uw.1 HKw.out).1;generalize hW2:Go.Sort.grow (putRow encStr (Go.Sort.ahead W kk) g 0 (nm.mergeSort (fun x y=>decide (x<=y))).toArray) os=W2 at *;have hob2:W2.heap[w.heap.size+1]? = some (.cells #[.slice (some ⟨g,0,none⟩) nm.length cap] 26 (0,0)):=(hgr2.block _ (Uw.1 HOb.out).1 (by simpa using hgo)).trans HOb.out;have hD3:W2.heap[D]? = some (.deferred (some [])):=(hgr2.block _ hDl (by simpa using hgD)).trans HKw.out;have hB2:Below w.heap.size w W2:=HBw.out.grown hgr2 HBw.out.size (fun j e=>by cases e;exact hgb);have hc2:=aH hob2 0;have hf2:=ct hob2 0;simp only [UO,VC] at hc2;have hH2:=holds_of_block hg2 htk;have CC:=Lib.hid (Any.slices_Compact_string yN g 0 cap (nm.mergeSort (fun x y=>decide (x<=y))) W2 hH2 (by omega) (by omega));rw [hls] at CC;have HG2:=Lib.hid hg2;have HOb2:=Lib.hid hob2;have HD3:=Lib.hid hD3;have HB2:=Lib.hid hB2;have HS2:=Lib.hid hsz2;clear hg2 hgr2 htk hsz2 hW2 hob2 hD3 hB2 hH2 HOb HG HKw HBw CS hvc hvf
   gi_wp2_with fail
   refine ⟨trivial,(callsIn_wide.2 CC.out).mono ?_⟩;rintro e w3 ⟨rfl,q,rfl⟩
   have hcl:(qf (.mk k s kids)).length<=nm.length:=by rw [HU.out, <- hls];exact Go.Lib.compact_length_le _
   rw [<-HU.out];generalize hZ:(qf (.mk k s kids)++List.replicate (nm.length - (qf (.mk k s kids)).length) ([]:List UInt8))=Z
   have hZl:Z.length=nm.length:=by rw [<-hZ,UC,List.length_replicate];omega
   have hg3:=heap_sorted (n:=q) (os:= #[]) Z.toArray HG2.out;have hgr3:=grownBy_sorted (w:=W2) (g:=g) (n:=q) (os:= #[]) Z.toArray;have htk:=take_putCells (putCells encStr 0 (nm.mergeSort (fun x y=>decide (x<=y))).toArray cur) Z (by rw [hZl,HS2.out];omega);rw [grow_empty] at hg3 hgr3;have hDl:D<W2.heap.size:=(Uw.1 HD3.out).1;generalize putRow encStr (Go.Sort.ahead W2 q) g 0 Z.toArray=W3 at *;have hob3:W3.heap[w.heap.size+1]? = some (.cells #[.slice (some ⟨g,0,none⟩) nm.length cap] 26 (0,0)):=(hgr3.block _ (Uw.1 HOb2.out).1 (by simpa using hgo)).trans HOb2.out;have hD4:W3.heap[D]? = some (.deferred (some [])):=(hgr3.block _ hDl (by simpa using hgD)).trans HD3.out;have hB3:Below w.heap.size w W3:=HB2.out.grown hgr3 HB2.out.size (fun j e=>by cases e;exact hgb);have hc3:=aH hob3 0;have hf3:=ct hob3 0;simp only [UO,VC] at hc3;have HG3:=Lib.hid hg3;have HOb3:=Lib.hid hob3;have HD4:=Lib.hid hD4;have HB3:=Lib.hid hB3;have HT:=Lib.hid htk;have HZ:=Lib.hid hZ;have HZl:=Lib.hid hZl;clear hg3 hgr3 htk hob3 hD4 hB3 hZ hZl hc2 hf2
   gi_wp2_with fail
   have hKs:=dv HD4.out (b:=w.heap.size+1) (o:=0) (.slice (some ⟨g,0,none⟩) (qf (.mk k s kids)).length cap) (by omega);refine ⟨by simp, .inl ⟨_,_,rfl,run_takeDeferred hKs, ?_⟩⟩;have hbx:=du (jh HOb3.out (.slice (some ⟨g,0,none⟩) (qf (.mk k s kids)).length cap)) (.deferred none) (D:=D) hne;have hcf:=aH hbx 0;simp only [UO,VC] at hcf
   refine ⟨.slice (some ⟨g,0,none⟩) (qf (.mk k s kids)).length cap, ?_,_,rfl, ?_, ?_,fun b off n c e=>by cases e;exact hgb⟩
   ·simp [results,Tryz.results33,go_sem,hcf]
   ·have hg4:=du (dv HG3.out (b:=w.heap.size+1) (o:=0) (.slice (some ⟨g,0,none⟩) (qf (.mk k s kids)).length cap) hgo.symm) (.deferred none) (D:=D) hgD.symm;refine .inr ⟨g,0,cap,by rw [bT,Vp],by rw [bT,Vp];omega,r2,fun i x hx=>⟨[.string x],rfl, ?_,trivial⟩⟩;rw [aH hg4]
    have hi:i<(qf (.mk k s kids)).length:=by simpa [bT] using (Uy.1 hx).1
    have e1:=congrArg (fun l:List Value=>l[i]?) HT.out
    have hZi:Z[i]? = some (qf (.mk k s kids))[i]:=by rw [<-HZ.out,List.getElem?_append_left hi,UM hi]
    rw [HZl.out,List.getElem?_take_of_lt (by omega),Array.getElem?_toList,UP,hZi] at e1;rw [Nat.zero_add,Nat.mul_one,e1];rw [bT,UP,UM hi] at hx;simp only [Option.map_some,Option.some.injEq] at hx;simp [encStr, <- hx]
   ·exact kR (HB3.out.setCell (p:=⟨w.heap.size+1,0,none⟩) (Xa _) _) (by omega) _ hKs
 case stop=>
  rintro D c pre W _ _ h _;exact h.elim
end
section
section
open Go.Lib
theorem PR {α:Type} [Inhabited α] [DecidableEq α] {le:α->α->Prop} (tr: ∀a b c,le a b->le b c->le a c) (an: ∀a b,le a b->le b a->a=b) (rf: ∀a,le a a) (d:Array α) (hs: ∀i j,i<=j->j<d.size->le d[i]! d[j]!) :
  ∀m,m<=d.size->(compactUpTo d m).Pairwise (fun a b=>le a b∧a≠b)∧(∀x,x∈compactUpTo d m ↔ ∃j,j<m∧x=d[j]!)∧ ∀x,x∈compactUpTo d m->le x d[m - 1]!
 | 0,_=>⟨by simp [compactUpTo],fun x=>by simp [compactUpTo],fun x h=>by simp [compactUpTo] at h⟩
 | m+1,hm=>by
  obtain ⟨h1,h2,h3⟩:=PR tr an rf d hs m (by omega);rw [compactUpTo_succ]
  have hle: ∀x,x∈compactUpTo d m->le x d[m]! :=fun x hx=>by
   rcases Nat.eq_zero_or_pos m with e|e
   ·subst e;simp [compactUpTo] at hx
   ·exact tr _ _ _ (h3 x hx) (hs (m - 1) m (by omega) (by omega))
  by_cases hk:keeps d m=true
  ·rw [if_pos hk]
   refine ⟨?_,fun x=> ?_,fun x hx=> ?_⟩
   ·rw [List.pairwise_append];refine ⟨h1,by simp,fun a ha b hb=> ?_⟩;simp only [VR,Xb,or_false] at hb;subst hb;refine ⟨hle a ha,fun e=> ?_⟩
    rcases Nat.eq_zero_or_pos m with q|q
    ·subst q;simp [compactUpTo] at ha
    ·have hne:d[m]! ≠ d[m - 1]! :=by
      simp only [keeps,decide_eq_true_eq] at hk
      rcases hk with hk|hk
      ·omega
      ·exact hk
     have h4:=h3 a ha;have h5:=hs (m - 1) m (by omega) (by omega);rw [e] at h4;exact hne (an _ _ h4 h5)
   ·simp only [List.mem_append,VR,Xb,or_false,h2 x]
    constructor
    ·rintro (⟨j,hj,rfl⟩|rfl)
     ·exact ⟨j,by omega,rfl⟩
     ·exact ⟨m,by omega,rfl⟩
    ·rintro ⟨j,hj,rfl⟩
     rcases UA j m with q|q
     ·exact .inl ⟨j,q,rfl⟩
     ·obtain rfl:j=m:=by omega
      exact .inr rfl
   ·rw [Nat.add_sub_cancel];simp only [List.mem_append,VR,Xb,or_false] at hx
    rcases hx with hx|rfl
    ·exact hle x hx
    ·exact rf _
  ·rw [if_neg hk,VL]
   have hm0:m≠0∧d[m]! = d[m - 1]! :=by
    simp only [keeps,decide_eq_true_eq] at hk;exact ⟨fun e=>hk (.inl e),WD fun e=>hk (.inr e)⟩
   refine ⟨h1,fun x=> ?_,fun x hx=>by rw [Nat.add_sub_cancel];exact hle x hx⟩;rw [h2 x]
   constructor
   ·rintro ⟨j,hj,rfl⟩;exact ⟨j,by omega,rfl⟩
   ·rintro ⟨j,hj,rfl⟩
    rcases UA j m with q|q
    ·exact ⟨j,q,rfl⟩
    ·obtain rfl:j=m:=by omega
     exact ⟨j - 1,by omega,hm0.2⟩
theorem kq (l:List (List UInt8)):(Go.Lib.compact (l.mergeSort (fun x y=>decide (x<=y)))).Pairwise (fun a b=>a<b)∧ ∀x,x∈Go.Lib.compact (l.mergeSort (fun x y=>decide (x<=y)))↔x∈l:=by
 have hsort:(l.mergeSort (fun x y=>decide (x<=y))).Pairwise (fun x y=>decide (x<=y)=true):=List.pairwise_mergeSort (fun a b c h1 h2=>by simp only [decide_eq_true_eq] at *; exact List.le_trans h1 h2) (fun a b=>by simp only [Bool.or_eq_true,decide_eq_true_eq];exact List.le_total a b) _;have hperm:=List.mergeSort_perm l (fun x y=>decide (x<=y));generalize l.mergeSort (fun x y=>decide (x<=y))=s at hsort hperm
 have hs: ∀i j,i<=j->j<s.toArray.size->s.toArray[i]! <= s.toArray[j]! :=fun i j hij hj=>by
  have hj':j<s.length:=by simpa using hj
  have hi':i<s.length:=by omega
  rw [getElem!_pos s.toArray i (by simpa using hi'),getElem!_pos s.toArray j hj];simp only [List.getElem_toArray]
  rcases UA i j with q|q
  ·have:=List.pairwise_iff_getElem.1 hsort i j hi' hj' q
   simpa using this
  ·obtain rfl:i=j:=by omega
   exact List.le_refl _
 obtain ⟨h1,h2,_⟩:=PR (le:=fun a b:List UInt8=>a<=b) (fun _ _ _=>List.le_trans) (fun _ _=>List.le_antisymm) (fun _=>List.le_refl _) s.toArray hs s.length (by simp)
 refine ⟨?_,fun x=> ?_⟩
 ·show (compactUpTo s.toArray s.length).Pairwise _;refine h1.imp fun {a b} ⟨q1,q2⟩=> ?_;exact WD fun h=>q2 (List.le_antisymm q1 (List.not_lt.1 h))
 ·show x∈compactUpTo s.toArray s.length↔_;rw [h2 x, <- hperm.mem_iff]
  constructor
  ·rintro ⟨j,hj,rfl⟩;rw [getElem!_pos s.toArray j (by simpa using hj)];simp
  ·intro hx;obtain ⟨j,hj,rfl⟩:=List.getElem_of_mem hx;exact ⟨j,hj,by rw [getElem!_pos s.toArray j (by simpa using hj)];simp⟩
end
theorem mS (x:Ex):iN (bT x):=by
 rw [iN,bT,List.pairwise_map]
 exact (kq _).1.imp fun h=>by simpa using h
theorem kC {x:Ex} {s:ByteArray}:s∈bT x↔s∈aB x:=by
 rw [bT,Xc]
 constructor
 ·rintro ⟨l,h,rfl⟩
  have:=((kq _).2 l).1 h
  obtain ⟨t,h1,rfl⟩:=Xc.1 this;simpa using h1
 ·intro h;exact ⟨s.data.toList,((kq _).2 _).2 (List.mem_map_of_mem h),by simp⟩
theorem iT (x:Ex):(bT x).Nodup:=lp (mS x)
theorem Im (x:Ex):(bT x).length<=(aB x).length:=(iT x).length_le_of_subset fun _ h=>kC.1 h
theorem sW {x:Ex} (h:Fit x):((ah x).filter (fun y=>y.kind==1)).map Ex.label=aB x:=by
 induction h with
 | lab s=>simp [ah,bf,aB,Ex.kind,Ex.label]
 | many k s l hk hl hf ih=>
  have hk1: ¬k=1:=by rcases hk with rfl|rfl<;>decide
  rw [ah,bf,cO hk1,Xd (by simpa [Ex.kind] using hk1)];clear hl hf
  induction l with
  | nil=>rfl
  | cons a l ih2=>
   rw [List.flatMap_cons,List.filter_append,List.map_append,aJ,ih a (by simp),ih2 (fun y hy=>ih y (by simp [hy]))]
 | one k s x hk hf ih=>
  have hk1: ¬k=1:=by rcases hk with rfl|rfl|rfl<;>decide
  rw [ah,bf,cO hk1,Xd (by simpa [Ex.kind] using hk1),List.flatMap_cons,List.flatMap_nil,VL,ih,aJ,aJ,VL]
theorem BO {x:Ex} (h:Fit x) (L:List XC) (e:L.map XC.sig=(ah x).map Ex.sig):n3 L=aB x:=by
 rw [<-sW h]
 have h1:n3 L=((L.map XC.sig).filter (fun c=>c.1==1)).map (fun c=>c.2.1):=by
  rw [n3,List.filter_map,List.map_map];rfl
 have h2:((ah x).filter (fun y=>y.kind==1)).map Ex.label=(((ah x).map Ex.sig).filter (fun c=>c.1==1)).map (fun c=>c.2.1):=by
  have e1:((fun c:Int×ByteArray×Nat=>c.1==1) ∘ Ex.sig)=fun y=>y.kind==1:=by funext y;cases y;rfl
  have e2:((fun c:Int×ByteArray×Nat=>c.2.1) ∘ Ex.sig)=Ex.label:=by funext y;cases y;rfl
  rw [List.filter_map,List.map_map,e1,e2]
 rw [h1,h2,e]
theorem Io (x:Ex) (h:x.ok) (hr:ay x=true):ar Tryz.prog 33 [.agg (aN x)] (ba (bT x)):=
 .Du (by kernel_rfl) (by simp only [aV,AV.wf,dA,WA]) (fun D nu w vargs hh=>by
  obtain ⟨a,rfl,ha⟩:=jR hh;obtain ⟨ca,rfl,ka⟩:=xP ha
  have hp:(ah x).length<=1000000:=by
   have:=hr
   simp only [ay,Vj,decide_eq_true_eq] at this;omega
  exact BQ x ca w (xV x ca ka) h hr hp (BO (dC hr).1))
theorem zs {x:Ex} (hr:ay x=true) {l:ByteArray} (h:l∈aB x):c8 l=true:=by
 rw [<-sW (dC hr).1,Xc] at h;obtain ⟨y,hy,rfl⟩:=h;rw [List.mem_filter] at hy
 have hp:y.part=true:=by
  simp only [ay,Vj,List.all_eq_true] at hr;exact hr.2 y hy.1
 obtain ⟨k,s,kids⟩:=y
 have hk:k=1:=by simpa [Ex.kind] using hy.2
 subst hk;simp only [Ex.part,bg,BEq.rfl,if_true,Vj] at hp;exact hp.2
theorem EU {s:ByteArray} (h:c8 s=true):s.size<=20:=by
 simp only [c8,iy,Vj,decide_eq_true_eq] at h;exact h.1.1.2
theorem K3 {s:ByteArray} (h:c8 s=true):32∉s.data.toList:=fun hm=>by
 simp only [c8,iy,Vj,List.all_eq_true] at h
 have:=h.1.1.1.1 32 hm
 revert this;decide
theorem xy {x:Ex} (hr:ay x=true): ∀l∈bT x,32∉l.data.toList:=fun l hl=>K3 (zs hr (kC.1 hl))
theorem Dq {x:Ex} (hr:ay x=true): ∀l∈bT x,l.size<=20:=fun l hl=>EU (zs hr (kC.1 hl))
theorem xx {x:Ex} (hr:ay x=true):(bT x).length<=24:=by
 have N:=iq hr
 have:=Im x
 have:=N.ok.n
 rw [N.labs] at this;omega
theorem Jt {x:Ex} (hr:ay x=true) {st:mK} (h:mB x (bT x)=some st):RX st.rows st.ends∧0<st.rows.length∧(bt st.rows st.ends).length=st.rows.length:=by
 obtain ⟨ho,hl,hw⟩:=x4 (aP (aO x)) (aO x).em (aq (aO x).la) (iT x) h;have hz0:(st.all)[0]? = some [0]:=hw.zero
 have hpos:0<st.rows.length:=by rw [hl];exact (List.getElem?_eq_some_iff.1 hz0).1
 have hT:=qz ho hl;obtain ⟨_,hpl⟩:=tF st.rows st.ends (qy (xy hr) ho) hT hpos ho.ends
 refine ⟨⟨by have:=ho.max;omega,ho.ends,fun r hr'=>(mS x).sublist (ho.row r hr').1,fun r hr'=> ?_,fun r hr' p hp=>⟨?_,hT r hr' p hp⟩⟩,hpos,hpl⟩
 ·have:=(ho.row r hr').1.length_le
  have:=xx hr
  simp only [List.length_map] at *; omega
 ·have:=Dq hr _ ((ho.row r hr').1.subset (List.mem_map_of_mem hp));omega
def de (A:pJ):List AV:=gV A.rows A.ends++[ba A.labs]
theorem mD (n:Nat) (A:pJ):aV n (de A)=true:=by simp only [de,gV,ba,WE,Wt,aV,AV.wf,pF,pE,a7,WA]
theorem nN (A:pJ):ar Tryz.prog 28 [.vp (de A)] (.v (.int .i64 A.rows.length)):=by
 simp only [de,gV,ba,WE,Wt];refine gE Tryz.func28 Tryz.ntmps28 Tryz.results28 ?_;exact vn
noncomputable def xK (x:Ex):AV:=match jq x (bT x) with
 | .inl A=> .cI [.vp (de A), .v (.int .i64 0)]
 | .inr e=> .cI [.v (.pointer none), .v (.int .i64 e)]
theorem Mr (x:Ex):(xK x).wf 0=true:=by
 unfold xK
 split
 ·simp only [AV.wf,aV,mD,WA]
 ·rfl
theorem xa (x:Ex) (ho:x.ok):ar Tryz.prog 9 [.agg (aN x)] (xK x):=by
 have CN:=Qm x ho;have hF:=Mr x
 have hu:xK x=(if ay x then (match mB x (bT x) with
  | some st=>if 32<(gb (bT x) st).rows.length then .cI [.v (.pointer none), .v (.int .i64 11)] else .cI [.vp (de (gb (bT x) st)), .v (.int .i64 0)]
  | none=> .cI [.v (.pointer none), .v (.int .i64 11)]) else .cI [.v (.pointer none), .v (.int .i64 2)]):=by
  unfold xK jq
  cases ay x
  ·rfl
  ·simp only [if_true]
   cases mB x (bT x) with
   | none=>rfl
   | some st=>
    by_cases h32:32<(gb (bT x) st).rows.length
    ·simp only [if_pos h32]
    ·simp only [if_neg h32]
 rw [hu] at hF ⊢;clear hu
 cases hr:ay x
 ·rw [hr] at CN hF;simp only [Bool.false_eq_true,if_false] at CN hF ⊢;simp only [aD] at *;refine gE Tryz.func9 Tryz.ntmps9 Tryz.results9 ?_
  (refine bq ?_;intro K hK K hK)
  refine ab.one CN ?_
  (revert K;revert K;refine bq ?_)
  (refine jm.of 40 rfl ?_;simp only [go_sem])
 ·have CL:=Io x ho hr;rw [hr] at CN hF;simp only [if_true] at CN hF ⊢;have ok:=(iq hr).ok;have hln:=xx hr;have CS:=Ou ok (bT x) (iT x) (by omega) (kT _).2;have hS:nC (aP (aO x)) (aO x).em (aq (aO x).la) (bT x)=mB x (bT x):=rfl;rw [hS] at CS
  cases hst:mB x (bT x) with
  | none=>
   rw [hst] at CS hF;simp only [qV] at CS;simp only [aD,ba] at *;refine gE Tryz.func9 Tryz.ntmps9 Tryz.results9 ?_
   (refine bq ?_;intro K hK K hK)
   refine ab.one CN ?_
   (revert K;revert K;refine bq ?_;intro K hK K hK)
   refine ab.one CL ?_
   (revert K;revert K;refine bq ?_;intro K hK K hK)
   refine ab.one CS ?_
   (revert K;revert K;refine bq ?_)
   (refine jm.of 40 rfl ?_;simp only [go_sem])
  | some st=>
   rw [hst] at CS hF;obtain ⟨g1,g2,g3⟩:=Jt hr hst;have CQ:=Ln g1 g2 g3;have CZ:=nN (gb (bT x) st);simp only [qV] at CS
   by_cases h32:32<(gb (bT x) st).rows.length
   ·simp only [if_pos h32] at hF ⊢;simp only [aD,ba,de,gA,gb,gV,WE,Wt] at *;clear hF g1 g2 g3 hS hst;generalize cp st.rows st.ends (bt st.rows st.ends)=L at CQ CZ h32 ⊢;refine gE Tryz.func9 Tryz.ntmps9 Tryz.results9 ?_
    (refine bq ?_;intro K hK K hK)
    refine ab.one CN ?_
    (revert K;revert K;refine bq ?_;intro K hK K hK)
    refine ab.one CL ?_
    (revert K;revert K;refine bq ?_;intro K hK K hK)
    refine ab.one CS ?_
    (revert K;revert K;refine bq ?_;intro K hK K hK)
    refine ab.one CQ ?_
    (revert K;revert K;refine bq ?_;intro K hK K hK K hK)
    refine ab.J4 CZ 20 rfl (by simp only [go_sem,Nat.reduceLT,Nat.reduceLeDiff,Nat.reduceEqDiff,Nat.lt_add_one,Nat.zero_lt_one,and_self]) rfl ?_
    ((iterate 3 revert K);refine bq ?_;intro K hK)
    refine bH.part (fun h=> ?_) (fun h=> ?_)
    ·(revert K;refine bq ?_)
     (refine jm.of 40 rfl ?_;simp only [go_sem])
    ·exfalso;replace h:=bI h;omega
   ·simp only [if_neg h32] at hF ⊢;simp only [aD,ba,de,gA,gb,gV,WE,Wt] at *;clear hF g1 g2 g3 hS hst;generalize cp st.rows st.ends (bt st.rows st.ends)=L at CQ CZ h32 ⊢;refine gE Tryz.func9 Tryz.ntmps9 Tryz.results9 ?_
    (refine bq ?_;intro K hK K hK)
    refine ab.one CN ?_
    (revert K;revert K;refine bq ?_;intro K hK K hK)
    refine ab.one CL ?_
    (revert K;revert K;refine bq ?_;intro K hK K hK)
    refine ab.one CS ?_
    (revert K;revert K;refine bq ?_;intro K hK K hK)
    refine ab.one CQ ?_
    (revert K;revert K;refine bq ?_;intro K hK K hK K hK)
    refine ab.J4 CZ 20 rfl (by simp only [go_sem,Nat.reduceLT,Nat.reduceLeDiff,Nat.reduceEqDiff,Nat.lt_add_one,Nat.zero_lt_one,and_self]) rfl ?_
    ((iterate 3 revert K);refine bq ?_;intro K hK)
    refine bH.part (fun h=> ?_) (fun h=> ?_)
    ·exfalso;replace h:=bI h;omega
    ·(revert K;refine bq ?_)
     (refine jm.of 40 rfl ?_;simp only [go_sem])
def ep (A:pJ) (s:Int):Bool:=decide (0<=s)&&decide (s<A.rows.length)&&A.ends.getD s.toNat false
def iK (A:pJ) (s:Int) (l:ByteArray):Option Nat:=if 0<=s∧s<A.rows.length then look (A.rows.getD s.toNat []) l else none
def stepT (o:Option Nat):AV:= .cI [.v (.int .i64 ((o.getD 0:Nat):Int)), .v (.bool o.isSome)]
theorem JX (o:Option Nat):(stepT o).wf 0=true:=rfl
theorem sd (A:pJ) (hE:A.ends.length=A.rows.length) (s:Int):ar Tryz.prog 29 [.vp (de A), .v (.int .i64 s)] (.v (.bool (ep A s))):=by
 have CZ:=nN A;simp only [de,gV,ba,WE,Wt,hE] at CZ ⊢
 by_cases h0:0<=s
 ·obtain ⟨k,rfl⟩: ∃k:Nat,s=k:=⟨s.toNat,by omega⟩;have e1:decide (0<=(k:Int))=true:=decide_eq_true h0
  by_cases h1:k<A.rows.length
  ·have e2:decide ((k:Int)<(A.rows.length:Int))=true:=decide_eq_true (by omega)
   have e3:ep A k=A.ends.getD k false:=by rw [ep,e1,e2];rfl
   have eG:(A.ends.map (fun b=>[AV.v (.bool b)])).getD k []=[.v (.bool (A.ends.getD k false))]:=by
    rw [Vq,List.getElem?_map,UM (by omega),Vq,UM (by omega)];rfl
   rw [e3];refine gE Tryz.func29 Tryz.ntmps29 Tryz.results29 ?_
   (refine aM e1 ?_;intro K hK K hK)
   refine ab.one CZ ?_
   (revert K;revert K;exact Hy e2 eG)
  ·have e2:decide ((k:Int)<(A.rows.length:Int))=false:=decide_eq_false (by omega)
   have e3:ep A k=false:=by rw [ep,e2];simp
   rw [e3];refine gE Tryz.func29 Tryz.ntmps29 Tryz.results29 ?_
   (refine aM e1 ?_;intro K hK K hK)
   refine ab.one CZ ?_
   (revert K;revert K;exact Dl e2)
 ·have e1:decide (0<=s)=false:=decide_eq_false h0
  have e3:ep A s=false:=by rw [ep,e1];rfl
  rw [e3];refine gE Tryz.func29 Tryz.ntmps29 Tryz.results29 ?_;exact Dl e1
theorem ri (A:pJ) (s:Int) (l:ByteArray):ar Tryz.prog 30 [.vp (de A), .v (.int .i64 s), .v (.string l)] (stepT (iK A s l)):=by
 have CZ:=nN A;simp only [de,gV,ba,WE,Wt] at *
 by_cases h0:0<=s
 ·obtain ⟨k,rfl⟩: ∃k:Nat,s=k:=⟨s.toNat,by omega⟩;have e1:decide (0<=(k:Int))=true:=decide_eq_true h0
  by_cases h1:k<A.rows.length
  ·have e2:decide ((k:Int)<(A.rows.length:Int))=true:=decide_eq_true (by omega)
   have e3:iK A k l=look A.rows[k] l:=by
    rw [iK,if_pos ⟨h0,by omega⟩,Int.toNat_natCast,Vq,UM h1];rfl
   have eG:(A.rows.map (fun r=>[AV.mp (bY r)])).getD k []=[.mp (bY A.rows[k])]:=by
    rw [Vq,List.getElem?_map,UM h1];rfl
   have eA:=wI l A.rows[k];rw [e3]
   cases hl:look A.rows[k] l with
   | none=>
    rw [hl] at eA;simp only [Option.map_none,stepT,Xe,Xf] at eA ⊢;refine gE Tryz.func30 Tryz.ntmps30 Tryz.results30 ?_
    (refine aM e1 ?_;intro K hK K hK K hK)
    refine ab.one CZ ?_
    repeat (first|(with_reducible first|refine aA.up ?_|refine fun (K:AK) hK=> ?_|(refine hK _ ?_;clear hK K))|simp only [go_sem,e2,eG,eA]|with_reducible refine wA ?_|clear hK K)
    (refine jm.of 40 rfl ?_;simp only [go_sem])
   | some t=>
    rw [hl] at eA;simp only [Option.map_some,stepT,Option.getD_some,Option.isSome_some] at eA ⊢;refine gE Tryz.func30 Tryz.ntmps30 Tryz.results30 ?_
    (refine aM e1 ?_;intro K hK K hK K hK)
    refine ab.one CZ ?_
    repeat (first|(with_reducible first|refine aA.up ?_|refine fun (K:AK) hK=> ?_|(refine hK _ ?_;clear hK K))|simp only [go_sem,e2,eG,eA]|with_reducible refine wA ?_|clear hK K)
    (refine jm.of 40 rfl ?_;simp only [go_sem])
  ·have e2:decide ((k:Int)<(A.rows.length:Int))=false:=decide_eq_false (by omega)
   have e3:iK A k l=none:=by rw [iK,if_neg (by omega)]
   rw [e3];simp only [stepT,Xe,Xf];refine gE Tryz.func30 Tryz.ntmps30 Tryz.results30 ?_
   (refine aM e1 ?_;intro K hK K hK K hK)
   refine ab.one CZ ?_
   ((iterate 3 revert K);refine aM e2 ?_)
   (refine jm.of 40 rfl ?_;simp only [go_sem])
 ·have e1:decide (0<=s)=false:=decide_eq_false h0
  have e3:iK A s l=none:=by rw [iK,if_neg (by omega)]
  rw [e3];simp only [stepT,Xe,Xf];refine gE Tryz.func30 Tryz.ntmps30 Tryz.results30 ?_;refine aM e1 ?_
  (refine jm.of 40 rfl ?_;simp only [go_sem])
theorem ME (l:List ByteArray) (hl:l.length<=1000000) (hne:l≠[]):c7 Tryz.prog 47 [.aC 1 (l.map encS) l.length] [] (.vec 0 l.length) [some ⟨9,1,true,l.map encS⟩]:=by
 have hpos:0<l.length:=by cases l<;>simp_all
 have eL:(l.map encS).length=l.length:=by simp
 refine gF Tryz.func47 Tryz.ntmps47 Tryz.results47 ?_
 repeat (first|(with_reducible first|refine aA.up ?_|refine fun (K:AK) hK=> ?_|(refine hK _ ?_;clear hK K))|simp only [go_sem,eL]|with_reducible refine wA ?_|clear hK K)
 refine ⟨fun e=>hne (by simpa using e), ?_⟩;have eT:(l.map encS).take l.length=l.map encS:=List.take_of_length_le (by omega)
 repeat (first|(with_reducible first|refine aA.up ?_|refine fun (K:AK) hK=> ?_|(refine hK _ ?_;clear hK K))|simp only [go_sem,eL,eT]|with_reducible refine wA ?_|clear hK K)
 (refine ⟨?_, ?_, ?_⟩<;>simp only [di,j7,AV.v.injEq,Value.int.injEq,Value.bool.injEq,Value.string.injEq,AV.vec.injEq,AV.ptr.injEq,true_or,or_true,false_or,or_false,aa.mk.injEq,forall_eq_apply_imp_iff,forall_eq,forall_eq',go_sem])
theorem PO:ar Tryz.prog 47 [.aC 1 [] 0] (.aC 1 [] 0):=by
 refine ⟨⟨rfl,rfl⟩,by kernel_rfl,fun D nu w vargs hro hra=> ?_⟩;obtain ⟨x,rfl,hx⟩:=jR hra;obtain ⟨a,c,rfl⟩:=Ja hx
 have key:Calls Tryz.prog 47 #[.slice a 0 c] w (fun e w'=> ∃b,e = .returned (.slice b 0 0)∧Below w.heap.size w w'):=by
  have hq: ∀w,(binOp .eql 26 (.slice a 0 c) (.slice none 0 0)).run Tryz.prog w = .ok (.bool a.isNone) w:=fun w=>(tY (by kernel_rfl)).1;have HB:=Lib.hid (fun ob=>((Below.refl w.heap.size w).alloc (Nat.le_refl _) ob))
  cases a with
  | none=>
   clear hx hra hro
   go_enter Tryz.func47,Tryz.ntmps47
   go_wp2
   go_ret
   exact ⟨none,rfl, .refl _ _⟩
  | some a=>
   clear hx hra hro
   go_enter Tryz.func47,Tryz.ntmps47
   go_wp2
   go_ret
   exact ⟨some _,rfl,HB.out _⟩
 refine key.mono ?_;rintro e w' ⟨b,rfl,hb⟩;refine ⟨_,nu,[], .aC 1 [] 0,rfl,au hb,hro.below hb, ?_,rfl,rfl⟩
 cases b with
 | none=>exact .bp 1
 | some b=>exact .bD 1 b
theorem PQ (l:List ByteArray) (hl:l.length<=1000000):ar Tryz.prog 47 [ba l] (ba l):=by
 by_cases h:l=[]
 ·subst h;exact PO
 ·exact (ME l hl h).OF 8 rfl ⟨by simp,by simp,a7 _ _⟩ (by simp only [go_sem]) (a7 _ _)
theorem EF (A:pJ) (hl:A.labs.length<=1000000):ar Tryz.prog 19 [.vp (de A)] (ba A.labs):=by
 have CC:=PQ A.labs hl;simp only [de,gV,ba,WE,Wt] at *;refine gE Tryz.func19 Tryz.ntmps19 Tryz.results19 ?_
 (refine bq ?_;intro K hK K hK)
 refine ab.one CC ?_
 (revert K;revert K;refine bq ?_)
 (refine jm.of 40 rfl ?_;simp only [go_sem])
end
end Go.Proofs.YtfflpdekojlnmaaGreatDoor
