/- texts of one claim, one behind the other. -/
import Derived.Test.YtfflpdekojlnmaaGreatDoorYOnceC
import Derived.Test.YtfflpdekojlnmaaGreatDoorYRef08
import Derived.Test.YtfflpdekojlnmaaGreatDoorYTellP
import Derived.Test.YtfflpdekojlnmaaGreatDoorYDfaV
import Derived.Sort.Walk0
import Derived.StillTailTactics
import Derived.Test.YtfflpdekojlnmaaGreatDoorYAbsG
import Derived.Test.YtfflpdekojlnmaaGreatDoorYDfaA
import Derived.Test.YtfflpdekojlnmaaGreatDoorYAbsV
set_option linter.unusedSimpArgs false
set_option linter.unusedVariables false
set_option maxRecDepth 100000
set_option maxHeartbeats 16000000
open Bool renaming eq_iff_iff -> Y8, and_self -> YY, not_true -> ZM, not_false -> ZN
open List renaming map_map -> YZ, length_map -> XQ, length_append -> WX, replicate_succ -> YB, getD_eq_getElem?_getD -> XR, map_append -> YT, getElem?_append_right -> Xr, length_singleton -> YV, cons_append -> Y1, nil_append -> YR, getElem?_map -> Xe, getElem?_eq_getElem -> Xb, take_succ_eq_append_getElem -> Y3, drop_succ_cons -> Zm, drop_zero -> Zn, getElem_map -> YN, length_cons -> WY, length_nil -> WS, mem_append_left -> YL, map_nil -> Y5, set_cons_zero -> YA, set_cons_succ -> Yz, mem_append -> YP, mem_singleton -> YO, getElem_mem -> Ym, getElem?_eq_none -> Xg, take_length -> ZA, length_take -> Xm, all_eq_true -> X7, take_of_length_le -> Y7, getElem?_append_left -> WU, replicate_zero -> YC, map_cons -> YW
open Nat renaming sub_self -> X3, zero_le -> WZ, lt_add_one -> Zi, zero_lt_one -> Zj, zero_lt_succ -> Zq, lt_succ_iff_lt_or_eq -> ZK
open Option renaming toList_some -> ZI, getD_none -> Zv, isSome_none -> Zw, getD_some -> YX, isSome_some -> Zx, map_none -> ZL, map_some -> Xu
open Int renaming toNat_natCast -> ZJ
open Array renaming getElem?_modify -> XS, getElem?_eq_some_iff -> WR, getElem?_eq_getElem -> Xa
namespace Go.Proofs.YtfflpdekojlnmaaGreatDoor
open Go.RowKit
section
section
variable {P:Program}
theorem C8 {n0:Nat} {Q:bd->AS->Prop} {ι:Type} {c:Code} {t:List AV} {o:List (Option ab)} {y:jA} (d1:Nat) (T1:TypeId) (z1:Nat) (hd1:t[d1]? = some (.v (.slice none 0 0))) (hz1:0<z1) (d2:Nat) (T2:TypeId) (z2:Nat) (hd2:(t.set d1 (.vec o.length 0))[d2]? = some (.v (.slice none 0 0))) (hz2:0<z2)
  (m:Nat) (upd:ι->List (Nat×AV)) (ob:ι->List (Option ab)) (mu:ι->Nat) (ok:ι->Prop) (i0:ι) (h3:ok i0)
  (h2:Wk n0 ⟨(t.set d1 (.vec o.length 0)).set d2 (.vec (o++[some (ab.mk T1 z1 true [])]).length 0),(o++[some (ab.mk T1 z1 true [])])++[some (ab.mk T2 z2 true [])],y⟩ ⟨kD (cQ m t) (upd i0),ob i0,y⟩)
  (h: ∀i,ok i-> ∀K:AS->Prop,(∀s2,az n0 (fun i=>⟨kD (cQ m t) (upd i),ob i,y⟩) mu ok (mu i) s2->K s2)->cm P n0 c ⟨kD (cQ m t) (upd i),ob i,y⟩ (my K Q)):cm P n0 (.loop c) ⟨t,o,y⟩ Q:=
 kM (fun i=>AS.mk (kD (cQ m t) (upd i)) (ob i) y) mu ok i0 _ (Gs.step d2 T2 z2 _ (Gs.step d1 T1 z1 (AS.mk t o y) .refl hd1 hz1) hd2 hz2) h2 h3 h
end
def cB (l:List Bool):List (List AV):=l.map (fun b=>[.v (.bool b)])
@[go_sem] theorem eo (l:List Bool):(cB l).length=l.length:=by simp [cB]
@[go_sem] theorem nj (n:Nat) (l:List Bool):bj n (cB l)=true:=bw _ (fun _=>rfl) _
attribute [go_sem] dq
def nf (labs:List ByteArray):Option nA->AV
 | some st=> .cI [.aB 1 (de (st.rows.map (fh labs))) st.rows.length, .aB 1 (cB st.ends) st.ends.length, .v (.bool true)]
 | none=> .cI [.v (.slice none 0 0), .v (.slice none 0 0), .v (.bool false)]
theorem Ib (labs:List ByteArray) (o:Option nA):(nf labs o).wf 0=true:=by
 cases o with
 | none=>rfl
 | some st=>simp only [nf,AV.wf,aN,kp,nj,Bool.and_self]
def LX (x:Ex) (labs:List ByteArray) (st:nA):List (Option ab):=[some ⟨25,3,false,[[.v (.int .i64 x.kind), .v (.string x.label), .aB 3 (x.kids.map aM) x.kids.length]]⟩,none,some ⟨79,1,true,st.all.map py⟩,some ⟨79,1,true,de (st.rows.map (fh labs))⟩,some ⟨4,1,true,cB st.ends⟩]
theorem pP (l:List Nat):aJ l=(bz l).map encI:=by rw [aJ,bz,YZ];rfl
theorem Mm (l:List (List Nat)):l.map py=de (l.map bz):=by
 rw [de,YZ];refine List.map_congr_left fun a _=> ?_;rw [py,Function.comp,pP,bz,XQ]
theorem xi {a b:List Nat}:bz a=bz b↔a=b:=by
 constructor
 ·intro h
  have:=congrArg (List.map Int.toNat) h
  simpa [bz,YZ,Function.comp_def] using this
 ·rintro rfl;rfl
theorem Gx (l:List (List Nat)) (s:List Nat):(l.map bz).findIdx? (fun y=>decide (bz s=y))=l.findIdx? (fun y=>s==y):=by
 induction l with
 | nil=>rfl
 | cons a l ih=>
  rw [List.map_cons,List.findIdx?_cons,List.findIdx?_cons,ih]
  by_cases e:s=a
  ·rw [beq_iff_eq.2 e,decide_eq_true (xi.2 e)]
  ·rw [beq_eq_false_iff_ne.2 e,decide_eq_false (fun q=>e (xi.1 q))]
def TI (L:List (List Nat)) (s:List Nat):Int:=match L.findIdx? (fun y=>s==y) with
 | some k=>(k:Int)
 | none=> -1
theorem R3 (L:List (List Nat)) (s:List Nat):PR (L.map bz) (bz s)=TI L s:=by
 rw [PR,Gx,TI];cases L.findIdx? (fun y=>s==y)<;>rfl
theorem PQ (L:List (List Nat)) (s:List Nat) (hL:L.length<=1000000) (hl: ∀l∈L,l.length<=1000000) (hs:s.length<=1000000):aq Tryz.prog 71 [.aB 1 (L.map py) L.length, .aB 1 (aJ s) s.length] (.v (.int .i64 (TI L s))):=by
 have:=IU (L.map bz) (bz s) (by simpa using hL) (fun l h=>by
  obtain ⟨a,ha,rfl⟩:=List.mem_map.1 h
  simpa [bz] using hl a ha) (by simpa [bz] using hs)
 rw [<-Mm, <- pP,R3,XQ,show (bz s).length=s.length by simp [bz]] at this;exact this
theorem Li {x:Ex} (hr:aC x=true) (cur:List Nat) (lab:ByteArray) (hn:(aD x).length<=1000) (hl:cur.length<=1000000):aq Tryz.prog 70 [.vp (vc x), .aB 1 (aJ cur) cur.length, .v (.string lab)] (.aB 1 (aJ (aU (aT x) cur lab)) (aU (aT x) cur lab).length):=by
 have:=N7 x (bz cur) lab hn (by simpa [bz] using hl)
 rw [<-step_eq hr, <- pP] at this;simpa [bz,aU] using this
def ld (A:List Int) (n:Nat):List (List AV):=(A++List.replicate (n - A.length) (0:Int)).map encI
theorem jr {A:List Int} {n:Nat} (h:A.length<=n):(ld A n).length=n:=by rw [ld,XQ,WX,List.length_replicate];omega
theorem qj (n:Nat):List.replicate n [AV.v (.int .i64 0)]=ld [] n:=by simp [ld,encI]
theorem s7 {A:List Int} {n:Nat} (h:A.length=n):ld A n=A.map encI:=by rw [ld,h,X3];simp
@[go_sem] theorem Vr (z:Nat) (A:List Int) (n:Nat):bj z (ld A n)=true:=bw _ (fun _=>rfl) _
theorem mY {A:List Int} {n k:Nat} (hA:A.length=k) (h:k<n):(ld A n).getD k []=[.v (.int .i64 0)]:=by
 subst hA;rw [ld,show n - A.length=(n - (A.length+1))+1 by omega,YB,XR,YT,Xr (by rw [XQ];exact Nat.le_refl _),XQ,X3]
 rfl
theorem qi {A:List Int} {n k:Nat} (v:Int) (hA:A.length=k) (h:k<n):(ld A n).set k [.v (.int .i64 v)]=ld (A++[v]) n:=by
 subst hA;rw [ld,ld,show n - A.length=(n - (A++[v]).length)+1 by rw [WX,YV];omega,YB];simp [List.set_append,encI]
theorem zm {A:List Int} {n k:Nat} (u:Int) (hA:A.length=k):(ld (A++[u]) n).getD k []=[.v (.int .i64 u)]:=by
 subst hA;rw [ld,XR,List.append_assoc,YT,Xr (by rw [XQ];exact Nat.le_refl _),XQ,X3]
 rfl
theorem vg {A:List Int} {n k:Nat} (u v:Int) (hA:A.length=k):(ld (A++[u]) n).set k [.v (.int .i64 v)]=ld (A++[v]) n:=by
 subst hA;rw [ld,ld,show (A++[u]).length=(A++[v]).length by simp];simp [List.set_append,encI]
theorem Ny {x:Ex} (hr:aC x=true) {a:List Nat} (h:Made (aU (aT x)) a): ∀p∈a,p<=(aD x).length:=fun p hp=>by
 have L:=iI hr
 rcases h.2 with rfl|⟨cur,l,rfl⟩
 ·simp only [List.mem_singleton] at hp;omega
 ·obtain ⟨q,_,_,k,_⟩:=(jF L.ok).1 hp
  have:=(L.ok.rY _ _ k).2
  rw [L.labs] at this;exact this
def Ci (g:Nat->Bool) (p:Nat):Bool:=decide (0<p)&&g (p - 1)
theorem Jl {N:Nat} {g:Nat->Bool} {p:Nat} (h:p<=N):(jt N g).contains p=Ci g p:=by
 rw [Y8,List.contains_iff_mem,vq,Ci,Bool.and_eq_true,decide_eq_true_eq];exact ⟨fun q=>⟨by omega,q.2.2⟩,fun q=>⟨by omega,h,q.2⟩⟩
theorem any_eq {N:Nat} {g:Nat->Bool} {l:List Nat} (h: ∀p∈l,p<=N):l.any (fun p=>(jt N g).contains p)=l.any (Ci g):=by
 rw [Y8,List.any_eq_true,List.any_eq_true];exact ⟨fun ⟨p,hp,q⟩=>⟨p,hp,by rw [<-Jl (h p hp)];exact q⟩,fun ⟨p,hp,q⟩=>⟨p,hp,by rw [Jl (h p hp)];exact q⟩⟩
theorem K9 {x:Ex} (hr:aC x=true) (h1:(aj x).length<=1000000) (hz: ∀z,z∈aj x->z.kids.length<=1000000∧z.label.size<=1000000000000000) (labs:List ByteArray) (hn:labs.Nodup) (hl:labs.length<=1000) (hN:(aD x).length<=1000):aq Tryz.prog 38 [.agg (aM x),aS labs] (nf labs (ng x labs)):=by
 have CN:=NO x h1 hz;rw [hr,if_pos rfl] at CN;have wR:=jx 0 x;have CS:=fun cur lab hc=>Li hr cur lab hN hc;have eS:ng x labs=ox (aU (aT x)) (aT x).em (ar (aT x).la) labs:=rfl;rw [eS];have hEm:=Oo hr;generalize (aT x).em=em at *
 have hA:aN 0 [AV.agg (aM x),aS labs]=true:=by simp only [aS,aN,AV.wf,dL,aO,Bool.and_self]
 have hF:=Ib labs (ox (aU (aT x)) em (ar (aT x).la) labs);generalize hrv:nf labs (ox (aU (aT x)) em (ar (aT x).la) labs)=rv at hF ⊢;simp only [aA,aS] at *
 (refine aq.lC Tryz.func38 rfl (by kernel_rfl) (by kernel_rfl) rfl hA hF ?_;simp only [Tryz.ntmps38,Tryz.results38,List.length_cons,List.length_nil,Nat.reduceAdd,Nat.reduceSub,YB,List.replicate_zero,Y1,YR])
 (refine mL ?_;intro K hK K hK)
 refine aa.one CN ?_
 repeat ((fail_if_success (with_reducible refine bm (i:=3) ?_));first|(with_reducible first|refine aw.up ?_|refine fun (K:AK) hK=> ?_|refine ae (by decide) ?_|(refine hK _ ?_;clear hK K))|simp only [go_sem]|with_reducible refine wA ?_|clear hK K)
 refine a7 (dK (k:=2) (i:=0) (j:=0) (by decide) rfl (Nat.zero_lt_succ _) rfl rfl rfl rfl rfl) (by kernel_rfl) ?_;simp only [List.set_cons_zero,List.set_cons_succ]
 (revert K;refine mL ?_;intro K hK)
 refine C8 (ι:=nA) 10 79 1 rfl (by decide) 11 4 1 rfl (by decide) 18 (fun st=>[(9, .vec 2 st.all.length),(10, .vec 3 st.rows.length),(11, .vec 4 st.rows.length),(12, .v (.int .i64 st.rows.length))]) (LX x labs) (fun st=>257 - st.rows.length) (fun st=>Cx labs st∧(∀a∈st.all,Made (aU (aT x)) a)∧nf labs (mZ (aU (aT x)) em (ar (aT x).la) labs (257 - st.rows.length) st)=rv) s0
  ⟨Oc labs,fun a ha=>by simp only [s0,List.mem_singleton] at ha;subst ha;exact ⟨by simp, .inl rfl⟩,hrv⟩ ?_ ?_
 ·simp only [LX,s0]
  refine fm ?_ ?_ ai
  ·exact ⟨jx _ _,rfl⟩
  ·exact ⟨⟨rfl,nT _ _⟩,rfl,rfl⟩
 ·rintro st ⟨hok,hmade,hrun⟩ K hK;have h257:=hok.max;have hel:=hok.ends;simp only [LX]
  (revert K;revert K;refine mL ?_;intro K hK K hK K hK)
  refine bD.part (fun h=> ?_) (fun h=> ?_)
  ·have hlt:st.rows.length<st.all.length:=by replace h:=bG h;omega
   rw [show 257 - st.rows.length=(256 - st.rows.length)+1 by have:=hok.le;omega,mZ,if_pos hlt] at hrun;obtain ⟨hcm,hcl⟩:=oX (hmade _ (aW (d:=[]) hlt));rw [<-bC] at hcm hcl;have h0:[]∉st.all:=fun hm=>(hmade _ hm).1 rfl;have eZ:=qj labs.length
   repeat (first|(with_reducible first|refine aw.up ?_|refine fun (K:AK) hK=> ?_|refine wD ?_|refine ae (by decide) ?_|(refine hK _ ?_;clear hK K))|simp only [go_sem,h,eZ]|with_reducible refine wA ?_|clear hK K)
   refine aV (ι:=Nat) 18 (fun k=>[(9, .vec 2 (vb (aU (aT x)) (bC st) st.all (labs.take k)).1.length),(14, .v (.int .i64 k)),(15, .undef)]) (fun k=>LX x labs { st with all:=(vb (aU (aT x)) (bC st) st.all (labs.take k)).1 }++[some ⟨3,1,true,ld (vb (aU (aT x)) (bC st) st.all (labs.take k)).2 labs.length⟩]) (fun k=>labs.length - k) (fun k=>k<=labs.length) 0 (Nat.zero_le _) ?_ ?_
   ·simp only [LX,List.take_zero,vb,List.foldl_nil,Y1,YR];refine bl ?_ ai;exact ⟨jx _ _,rfl⟩
   ·intro k hk K hK;obtain ⟨k1,k2,k3,k4,k5,t,k6⟩:=s8 (aU (aT x)) (cur:=bC st) hok.nd (labs.take k);have hmd:=rF (aU (aT x)) hmade (cur:=bC st) (labs.take k);obtain ⟨eR,hne⟩:=Fk (aU (aT x)) (bC st) h0 (labs.take k) (hn.sublist (List.take_sublist _ _))
    have hr2:(vb (aU (aT x)) (bC st) st.all (labs.take k)).2.length=k:=by rw [eR];simp only [dp,List.length_take];omega
    rw [show (dD (aU (aT x)) (bC st) st.all (labs.take k)).1=(vb (aU (aT x)) (bC st) st.all (labs.take k)).1 by rw [eR]] at k3 k4 k6 hmd hne
    rcases hRi:vb (aU (aT x)) (bC st) st.all (labs.take k) with ⟨al,ro⟩
    rw [hRi] at k3 k4 k6 hmd hne hr2;simp only at k3 k4 k6 hmd hne hr2
    have hal:al.length<=2000:=by rw [List.length_take] at k4;omega
    simp only [LX,Y1,YR]
    ((iterate 5 revert K);refine mL ?_;iterate 6 intro K hK)
    refine bD.part (fun h2=> ?_) (fun h2=> ?_)
    ·have hli:k<labs.length:=by replace h2:=bG h2;omega
     have eW:=ak (k:=k) (by omega);have eG:=getD_map encS labs k [] hli
     have eC:(al.map py).getD st.rows.length []=[.aB 1 (aJ (bC st)) (bC st).length]:=by
      have hx:al.getD st.rows.length []=bC st:=by rw [k6,b7 hlt];rfl
      rw [XR,Xe,Xb (by omega)];rw [XR,Xb (by omega)] at hx;simp only [Option.map_some,Option.getD_some] at hx ⊢;rw [hx];rfl
     have hNx:=xI (aU (aT x)) (bC st) st.all (labs.take k) labs[k];rw [<-Y3 hli,hRi,TJ] at hNx;simp only at hNx;have CSk:=CS (bC st) labs[k] (by omega);obtain ⟨ts,tl⟩:=lx (iO (aT x) (fU (aT x) (bz (bC st))) labs[k]);have tl':(aU (aT x) (bC st) labs[k]).length<=1000:=tl;have AT:=PQ al (aU (aT x) (bC st) labs[k]) (by omega) (fun l hl=>by have:=(oX (hmd l hl)).2;omega) (by omega);rw [TI] at AT;generalize hto:aU (aT x) (bC st) labs[k]=to at *;have eLr:(ld ro labs.length).length=labs.length:=jr (by omega);simp only [encS] at eG;have wfA: ∀n,bj n (al.map py)=true:=fun n=>bw _ (nT n) _;have gZ:=mY (n:=labs.length) hr2 hli;have sQ:=fun v=>qi (n:=labs.length) v hr2 hli;have gQ:=fun u=>zm (n:=labs.length) u hr2;have sR:=fun u v=>vg (n:=labs.length) u v hr2;have eL2: ∀v:Int,(ld (ro++[v]) labs.length).length=labs.length:=fun v=>jr (by rw [WX,YV];omega)
     repeat (first|(with_reducible first|refine aw.up ?_|refine fun (K:AK) hK=> ?_|refine wD ?_|refine ae (by decide) ?_|(refine hK _ ?_;clear hK K))|simp only [go_sem,eG,eC,h2]|with_reducible refine wA ?_|clear hK K)
     refine aE.one CSk ?_
     ((iterate 8 revert K);refine P2 eG eC h2 ?_;iterate 8 intro K hK)
     cases hp:al.findIdx? (fun y=>to==y) with
     | some j=>
      rw [hp] at AT hNx;simp only at AT hNx
      have hto:to≠[]:=fun e=>by
       obtain ⟨q1,q2,_⟩:=List.findIdx?_eq_some_iff_getElem.1 hp;rw [beq_iff_eq] at q2;exact hne (by rw [<-e,q2];exact List.getElem_mem q1)
      have d1:decide ((0:Int)<(to.length:Int))=true:=decide_eq_true (by have:=List.length_pos_iff.2 hto;omega);have d2:decide ((j:Int)<0)=false:=decide_eq_false (by omega);refine aa.GD AT 8 rfl (by simp only [go_sem,Nat.reduceLT,Nat.reduceLeDiff,Nat.reduceEqDiff,Nat.lt_add_one,Nat.zero_lt_one,and_self,wfA,XQ]) rfl ?_
      repeat (first|(with_reducible first|refine aw.up ?_|refine fun (K:AK) hK=> ?_|refine wD ?_|refine ae (by decide) ?_|(refine hK _ ?_;clear hK K))|simp only [go_sem,eLr,gZ,Zm,Zn,sQ,d1,d2,gQ,eL2,Go.undef]|with_reducible refine wA ?_|clear hK K)
      refine qW eW ?_;refine az.mk (k+1) (by omega) (by omega) ?_;rw [hNx];simp only [LX,Y1,YR];refine bl ?_ ai;exact jx _ _
     | none=>
      rw [hp] at AT hNx;simp only at AT hNx;refine aa.GD AT 8 rfl (by simp only [go_sem,Nat.reduceLT,Nat.reduceLeDiff,Nat.reduceEqDiff,Nat.lt_add_one,Nat.zero_lt_one,and_self,wfA,XQ]) rfl ?_
      by_cases hto:to=[]
      ·have d1:decide ((0:Int)<(to.length:Int))=false:=decide_eq_false (by rw [hto];simp);rw [if_pos hto] at hNx
       repeat (first|(with_reducible first|refine aw.up ?_|refine fun (K:AK) hK=> ?_|refine wD ?_|refine ae (by decide) ?_|(refine hK _ ?_;clear hK K))|simp only [go_sem,eLr,gZ,Zm,Zn,sQ,d1,gQ,eL2,Go.undef]|with_reducible refine wA ?_|clear hK K)
       refine qW eW ?_;refine az.mk (k+1) (by omega) (by omega) ?_;rw [hNx];simp only [LX,Y1,YR];refine bl ?_ ai;exact jx _ _
      ·have d1:decide ((0:Int)<(to.length:Int))=true:=decide_eq_true (by have:=List.length_pos_iff.2 hto;omega);rw [if_neg hto] at hNx
       repeat (first|(with_reducible first|refine aw.up ?_|refine fun (K:AK) hK=> ?_|refine wD ?_|refine ae (by decide) ?_|(refine hK _ ?_;clear hK K))|simp only [go_sem,eLr,gZ,Zm,Zn,sQ,d1,gQ,eL2,Go.undef]|with_reducible refine wA ?_|clear hK K)
       repeat (first|(with_reducible first|refine aw.up ?_|refine fun (K:AK) hK=> ?_|refine wD ?_|refine ae (by decide) ?_|(refine hK _ ?_;clear hK K))|simp only [go_sem,eL2,gQ,sR,Zm,Zn]|with_reducible refine wA ?_|clear hK K)
       refine qW eW ?_;refine az.mk (k+1) (by omega) (by omega) ?_;rw [hNx];simp only [LX,Y1,YR,YT,List.map_cons,List.map_nil,WX,List.length_cons,List.length_nil]
       refine fm ?_ ?_ ai
       ·exact jx _ _
       ·exact ⟨rfl,nT _ _⟩
    ·have hil:k=labs.length:=by replace h2:=bG h2;omega
     rw [hil,List.take_length] at hRi;have eR2:=(Fk (aU (aT x)) (bC st) h0 labs hn).1;rw [hRi] at eR2
     rcases hSi:dD (aU (aT x)) (bC st) st.all labs with ⟨al',rs⟩
     rw [hSi] at eR2;simp only [Prod.mk.injEq] at eR2;obtain ⟨eal,ero⟩:=eR2
     have hall:(cj (aU (aT x)) em (ar (aT x).la) labs st).all=al:=by rw [cj,hSi,eal]
     have hrow:(cj (aU (aT x)) em (ar (aT x).la) labs st).rows=st.rows++[rs]:=by rw [cj,hSi]
     have hends:(cj (aU (aT x)) em (ar (aT x).la) labs st).ends=st.ends++[qm em (ar (aT x).la) st]:=by rw [cj]
     rw [hall] at hrun
     ((iterate 6 revert K);refine mL ?_;iterate 4 intro K hK)
     refine bD.part (fun h3=> ?_) (fun h3=> ?_)
     ·rw [if_pos (by replace h3:=bG h3;omega)] at hrun
      ((iterate 4 revert K);refine mL ?_)
      rw [<-hrun];exact bI.cI ⟨bI.v _,bI.v _,bI.v _,trivial⟩
     ·have h256: ¬ 256<al.length:=by replace h3:=bG h3;omega
      rw [if_neg h256] at hrun;have hle:=Ny hr (hmade _ (aW (d:=[]) hlt));rw [<-bC] at hle
      have hE:qm em (ar (aT x).la) st=(((st.rows.length:Int)==0&&em)||(bC st).any (Ci (fc x 0))):=by
       rw [qm,Lr hr,any_eq hle];congr 2;rw [Y8,beq_iff_eq,beq_iff_eq];omega
      have eC:(al.map py).getD st.rows.length []=[.aB 1 (aJ (bC st)) (bC st).length]:=by
       have hx:al.getD st.rows.length []=bC st:=by rw [k6,b7 hlt];rfl
       rw [XR,Xe,Xb (by omega)];rw [XR,Xb (by omega)] at hx;simp only [Option.map_some,Option.getD_some] at hx ⊢;rw [hx];rfl
      have eV:vc x=[.aB 1 ((aD x).map encS) (aD x).length, .aB 1 (cV (aD x).length (kA x 0)) (aD x).length, .aB 1 (cV (aD x).length (fc x 0)) (aD x).length, .aB 1 (kE (aD x).length (kz x 0)) (aD x).length, .v (.bool em), .v (.int .i64 x.kind), .v (.string x.label), .aB 3 (x.kids.map aM) x.kids.length]:=by rw [vc,hEm]
      simp only [eV];obtain ⟨e0,he0⟩: ∃e0,e0=((st.rows.length:Int)==0&&em):=⟨_,rfl⟩
      repeat ((fail_if_success (with_reducible refine bm (i:=19) ?_));first|(with_reducible first|refine aw.up ?_|refine fun (K:AK) hK=> ?_|refine ae (by decide) ?_|(refine hK _ ?_;clear hK K))|simp only [go_sem]|with_reducible refine wA ?_|clear hK K)
      refine Ab ⟨dV 132 [(0, .agg [.v (.int .i64 x.kind), .v (.string x.label), .aB 3 (x.kids.map aM) x.kids.length]),(1, .aB 1 (labs.map encS) labs.length),(2, .ptr 0 0 3 0 0),(4, .v (.slice none 0 0)),(5, .v (.slice none 0 0)),(6, .v (.bool false)),(7, .vp [.aB 1 ((aD x).map encS) (aD x).length, .aB 1 (cV (aD x).length (kA x 0)) (aD x).length, .aB 1 (cV (aD x).length (fc x 0)) (aD x).length, .aB 1 (kE (aD x).length (kz x 0)) (aD x).length, .v (.bool em), .v (.int .i64 x.kind), .v (.string x.label), .aB 3 (x.kids.map aM) x.kids.length]),(8, .v (.int .i64 0)),(9, .vec 2 al.length),(10, .vec 3 st.rows.length),(11, .vec 4 st.rows.length),(12, .v (.int .i64 st.rows.length)),(13, .vec 5 labs.length),(16, .v (.bool e0))],[some ⟨25,3,false,[[.v (.int .i64 x.kind), .v (.string x.label), .aB 3 (x.kids.map aM) x.kids.length]]⟩,none,some ⟨79,1,true,al.map py⟩,some ⟨79,1,true,de (st.rows.map (fh labs))⟩,some ⟨4,1,true,cB st.ends⟩,some ⟨3,1,true,ld ro labs.length⟩], .no⟩ (by kernel_rfl) ?_ ?_
      ·rcases (Bool.eq_false_or_eq_true ((st.rows.length:Int)==0)).symm with hZ|hZ
       ·rw [hZ,Bool.false_and] at he0;subst he0
        ((iterate 4 revert K);refine JG hZ ?_)
        exact aR ai
       ·rw [hZ,Bool.true_and] at he0;subst he0
        ((iterate 4 revert K);refine JG hZ ?_)
        exact aR ai
      ·simp only [dV,List.foldl_cons,List.foldl_nil,YB,List.replicate_zero,go_sem]
       ((iterate 4 revert K);refine mL ?_;iterate 4 intro K hK)
       refine bf (ι:=Nat) 18 (fun j=>[(16, .v (.bool (e0||((bC st).take j).any (Ci (fc x 0))))),(17, .v (.int .i64 j))]) (fun j=>(bC st).length - j) (fun j=>j<=(bC st).length) 0 (Nat.zero_le _) ?_ ?_
       ·refine bl ?_ ai
        all_goals first|rfl|simp
       ·intro j hj K hK;have eWj:=ak (k:=j) (by omega)
        repeat (first|(with_reducible first|refine aw.up ?_|refine fun (K:AK) hK=> ?_|refine wD ?_|refine ae (by decide) ?_|(refine hK _ ?_;clear hK K))|simp only [go_sem,eC]|with_reducible refine wA ?_|clear hK K)
        refine bD.part (fun h4=> ?_) (fun h4=> ?_)
        ·have hlj:j<(bC st).length:=by replace h4:=bG h4;omega
         have eN:(aJ (bC st)).getD j []=[.v (.int .i64 ((bC st)[j]:Nat))]:=by rw [aJ,XR,Xe,Xb hlj];rfl
         have eLn:(aJ (bC st)).length=(bC st).length:=by rw [aJ,XQ]
         have eA:((bC st).take (j+1)).any (Ci (fc x 0))=(((bC st).take j).any (Ci (fc x 0))||Ci (fc x 0) (bC st)[j]):=by rw [Y3 hlj,List.any_append];simp
         have hpl:=hle _ (List.getElem_mem hlj);generalize hpp:(bC st)[j]=pp at *;generalize hee:(e0||((bC st).take j).any (Ci (fc x 0)))=ee at *
         have eA2:(e0||((bC st).take (j+1)).any (Ci (fc x 0)))=(ee||Ci (fc x 0) pp):=by rw [eA, <- Bool.or_assoc,hee]
         cases ee
         ·by_cases hp0:0<pp
          ·have d1:decide ((0:Int)<(pp:Int))=true:=decide_eq_true (by omega)
           have eW1:IntKind.i64.wrap ((pp:Int) - 1)=((pp - 1:Nat):Int):=by rw [bH (by omega) (by omega)];omega
           have eB:=cZ (N:=(aD x).length) (g:=fc x 0) (j:=pp - 1) (by omega)
           have eQ:Ci (fc x 0) pp=fc x 0 (pp - 1):=by rw [Ci,decide_eq_true hp0,Bool.true_and]
           rw [eQ,Bool.false_or] at eA2
           ((iterate 6 revert K);refine ug h4 ?_;iterate 6 intro K hK)
           refine bA [] [] (by decide+kernel) (by kernel_rfl) ?_
           repeat (first|(with_reducible first|refine aw.up ?_|refine fun (K:AK) hK=> ?_|refine ae (by decide) ?_|(refine hK _ ?_;clear hK K))|simp only [go_sem,eC,eN,eLn,d1,eW1,eB,h4,Go.undef]|with_reducible refine wA ?_|clear hK K)
           refine qW eWj ?_;refine az.mk (j+1) (by omega) (by omega) ?_;rw [eA2];exact aR ai
          ·have d1:decide ((0:Int)<(pp:Int))=false:=decide_eq_false (by omega)
           have eQ:Ci (fc x 0) pp=false:=by rw [Ci,decide_eq_false hp0,Bool.false_and]
           rw [eQ,Bool.false_or] at eA2
           ((iterate 6 revert K);refine ug h4 ?_;iterate 6 intro K hK)
           refine bA [] [] (by decide+kernel) (by kernel_rfl) ?_
           repeat (first|(with_reducible first|refine aw.up ?_|refine fun (K:AK) hK=> ?_|refine ae (by decide) ?_|(refine hK _ ?_;clear hK K))|simp only [go_sem,eC,eN,eLn,d1,h4,Go.undef]|with_reducible refine wA ?_|clear hK K)
           refine qW eWj ?_;refine az.mk (j+1) (by omega) (by omega) ?_;rw [eA2];exact aR ai
         ·rw [Bool.true_or] at eA2
          ((iterate 6 revert K);refine Dt ?_;iterate 6 intro K hK)
          refine bA [] [] (by decide+kernel) (by kernel_rfl) ?_
          ((iterate 6 revert K);refine Qd ?_)
          refine qW eWj ?_;refine az.mk (j+1) (by omega) (by omega) ?_;rw [eA2];exact aR ai
        ·have hjl:j=(bC st).length:=by replace h4:=bG h4;omega
         have hEn:qm em (ar (aT x).la) st=(e0||((bC st).take j).any (Ci (fc x 0))):=by rw [hE, <- he0,hjl,List.take_length]
         rw [<-hEn]
         repeat ((fail_if_success (with_reducible refine bm (i:=24) ?_));first|(with_reducible first|refine aw.up ?_|refine fun (K:AK) hK=> ?_|refine ae (by decide) ?_|(refine hK _ ?_;clear hK K))|simp only [go_sem]|with_reducible refine wA ?_|clear hK K)
         refine a7 (fZ 13 5 rfl rfl rfl (by rw [jr (by omega)])) (by kernel_rfl) ?_;simp only [List.set_cons_zero,List.set_cons_succ];rw [s7 (by omega)];have eWi:=ak (k:=st.rows.length) (by omega)
         have eT:de (st.rows.map (fh labs))++[[.aB 1 (ro.map encI) labs.length]]=de ((cj (aU (aT x)) em (ar (aT x).la) labs st).rows.map (fh labs)):=by
          rw [hrow,YT,de,de,YT,ero];simp [dp]
         have eD:cB st.ends++[[AV.v (.bool (qm em (ar (aT x).la) st))]]=cB (cj (aU (aT x)) em (ar (aT x).la) labs st).ends:=by
          rw [hends,cB,cB,YT];rfl
         have hlen:(cj (aU (aT x)) em (ar (aT x).la) labs st).rows.length=st.rows.length+1:=by rw [hrow,WX,YV]
         generalize qm em (ar (aT x).la) st=se at *;obtain ⟨nx,hnx⟩: ∃nx,nx=cj (aU (aT x)) em (ar (aT x).la) labs st:=⟨_,rfl⟩;have hnok:Cx labs nx:=hnx ▸ qn (aU (aT x)) em (ar (aT x).la) hok hlt (by rw [hall];exact h256);rw [<-hnx] at hrun hlen hall eT eD
         have eEl:(cB st.ends).length=st.rows.length:=by rw [eo,hel]
         repeat (first|(with_reducible first|refine aw.up ?_|refine fun (K:AK) hK=> ?_|refine wD ?_|refine ae (by decide) ?_|(refine hK _ ?_;clear hK K))|simp only [go_sem,eT,eD,eEl,XQ,eWi]|with_reducible refine wA ?_|clear hK K)
         refine az.mk nx ⟨hnok,by rw [hall];exact hmd,by rw [hlen,show 257 - (st.rows.length+1)=256 - st.rows.length by omega];exact hrun⟩ (by rw [hlen];have:=hok.le;omega) ?_;simp only [LX,hall,hlen];refine bl ?_ ai;exact ⟨by rw [eV],jx _ _⟩
  ·have hge:st.rows.length=st.all.length:=by have:=hok.le;replace h:=bG h;omega
   rw [show 257 - st.rows.length=(256 - st.rows.length)+1 by omega,mZ,if_neg (by omega)] at hrun
   ((iterate 3 revert K);refine mL ?_)
   rw [<-hrun];simp only [nf,hel];exact bI.cI ⟨bI.B7 (ob:=⟨79,1,true,de (st.rows.map (fh labs))⟩) rfl rfl (by rw [dq,XQ]) (kp _ _),bI.B7 (ob:=⟨4,1,true,cB st.ends⟩) rfl rfl (by rw [eo];exact hel) (nj _ _),bI.v _,trivial⟩
end
def iK (A:oe):List AV:=[aS A.labs, .aB 1 (de (A.rows.map (fh A.labs))) A.rows.length, .aB 1 (cB A.ends) A.rows.length]
theorem qx (n:Nat) (A:oe):aN n (iK A)=true:=by simp only [iK,aS,aN,AV.wf,kp,nj,aO,YY]
theorem tS (l:List Bool) {i:Nat} (h:i<l.length):(cB l).getD i []=[.v (.bool (l.getD i false))]:=by
 rw [cB,XR,Xe,Xb h,XR,Xb h];rfl
theorem BL {A:oe} (hE:A.ends.length=A.rows.length) (s:Int):aq Tryz.prog 42 [.vp (iK A), .v (.int .i64 s)] (.v (.bool (du A s))):=by
 simp only [iK,aS]
 by_cases h0:0<=s
 ·obtain ⟨k,rfl⟩: ∃k:Nat,s=k:=⟨s.toNat,by omega⟩;have d0:decide ((0:Int)<=(k:Int))=true:=decide_eq_true h0
  by_cases h1:k<A.rows.length
  ·have d1:decide ((k:Int)<(A.rows.length:Int))=true:=decide_eq_true (by omega);have eG:=tS A.ends (i:=k) (by omega)
   have eL:(cB A.ends).length=A.rows.length:=by rw [eo,hE]
   have e:du A k=A.ends.getD k false:=by rw [du,d0,d1];rfl
   rw [e];refine gE Tryz.func42 Tryz.ntmps42 Tryz.results42 ?_;exact Sm d0 d1 eG eL
  ·have d1:decide ((k:Int)<(A.rows.length:Int))=false:=decide_eq_false (by omega)
   have e:du A k=false:=by rw [du,d0,d1];rfl
   rw [e];refine gE Tryz.func42 Tryz.ntmps42 Tryz.results42 ?_;exact Sl d0 d1
 ·have d0:decide ((0:Int)<=s)=false:=decide_eq_false h0
  have e:du A s=false:=by rw [du,d0];rfl
  rw [e];refine gE Tryz.func42 Tryz.ntmps42 Tryz.results42 ?_;exact Sk d0
theorem s6 {A:oe} (LO:FN A) (s:Int) (l:ByteArray):aq Tryz.prog 41 [.vp (iK A), .v (.int .i64 s), .v (.string l)] (stepT (ck A s l)):=by
 have hfew:=LO.PZ;have hmax:=LO.max;have hF:=LJ (ck A s l);simp only [iK,aS]
 by_cases hv:0<=s∧s<A.rows.length
 ·obtain ⟨n,rfl⟩: ∃n:Nat,s=n:=⟨s.toNat,by omega⟩
  have hn:n<A.rows.length:=by omega
  have d0:decide ((0:Int)<=(n:Int))=true:=decide_eq_true (by omega);have d1:decide ((n:Int)<(A.rows.length:Int))=true:=decide_eq_true (by omega)
  have eX:ck A n l=look (A.rows.getD n []) l:=by rw [ck,if_pos hv,Int.toNat_natCast]
  have eT:(de (A.rows.map (fh A.labs))).getD n []=[.aB 1 ((fh A.labs (A.rows.getD n [])).map encI) A.labs.length]:=by
   rw [pO _ (by rw [XQ];exact hn),YN,dp,XR,Xb hn];rfl
  have eLT:(de (A.rows.map (fh A.labs))).length=A.rows.length:=by rw [dq,XQ]
  have lT:((fh A.labs (A.rows.getD n [])).map encI).length=A.labs.length:=by rw [XQ,dp]
  rw [eX] at hF ⊢;generalize hrv:stepT (look (A.rows.getD n []) l)=rv at hF ⊢
  (refine aq.enter Tryz.func41 rfl (by kernel_rfl) (by kernel_rfl) rfl (by simp only [go_sem,aN,AV.wf,YY,Bool.and_true,Bool.true_and,hF]) (by simp only [go_sem,aN,AV.wf,aO,YY,Bool.and_true,Bool.true_and,hF]) ?_;simp only [Tryz.ntmps41,Tryz.results41,WY,WS,Nat.reduceAdd,Nat.reduceSub,YB,List.replicate_zero,List.cons_append,List.nil_append])
  (refine au ?_;intro K hK)
  refine bf (ι:=Nat) 9 (fun k=>[(8, .v (.int .i64 k))]) (fun k=>A.labs.length - k) (fun k=>k<=A.labs.length∧ ∀(j:Nat) (h:j<A.labs.length),j<k->A.labs[j]=l->look (A.rows.getD n []) l=none) 0 ⟨WZ _,fun j _ h=>absurd h (Nat.not_lt_zero _)⟩ ?_ ?_
  ·refine bl ?_ ai
   all_goals rfl
  ·rintro k ⟨hk,hall⟩ K hK;have eW:=ak (k:=k) (by omega)
   (revert K;revert K;refine au ?_;intro K hK K hK K hK)
   refine bD.part (fun h=> ?_) (fun h=> ?_)
   ·have hlt:k<A.labs.length:=by replace h:=bG h;omega
    have eG:=getD_map encS A.labs k [] hlt
    have hkR:k<(fh A.labs (A.rows.getD n [])).length:=by rw [dp];exact hlt
    have eGk:=JM (fh A.labs (A.rows.getD n [])) hkR
    have eV:(fh A.labs (A.rows.getD n []))[k]=(match look (A.rows.getD n []) A.labs[k] with|some t=>(t:Int)|none=> -1):=by
     simp only [fh,YN];cases look (A.rows.getD n []) A.labs[k]<;>rfl
    rw [eV] at eGk;simp only [encS] at eG
    have cont:(A.labs[k]=l->look (A.rows.getD n []) l=none)-> ∀(j:Nat) (h:j<A.labs.length),j<k+1->A.labs[j]=l->look (A.rows.getD n []) l=none:=fun hh j hj hjk e=>by
     rcases Nat.lt_succ_iff_lt_or_eq.1 hjk with q|rfl
     ·exact hall j hj q e
     ·exact hh e
    by_cases he:A.labs[k]=l
    ·have f1:(A.labs[k].toList==l.toList)=true:=by rw [he];simp
     cases hq:look (A.rows.getD n []) A.labs[k] with
     | none=>
      rw [hq] at eGk;simp only at eGk
      repeat (first|(with_reducible first|refine aw.up ?_|refine fun (K:AK) hK=> ?_|(refine hK _ ?_;clear hK K))|simp only [go_sem,d0,d1,eG,h,f1,eT,eLT,eGk,lT,Go.undef]|with_reducible refine wA ?_|clear hK K)
      refine aP eW ?_;exact az.mk (k+1) ⟨hlt,cont fun e=>by rw [<-e];exact hq⟩ (by omega) (by exact aR ai)
     | some t=>
      rw [hq] at eGk;simp only at eGk;have d2:decide ((0:Int)<=(t:Int))=true:=decide_eq_true (by omega);rw [<-he,hq] at hrv
      repeat (first|(with_reducible first|refine aw.up ?_|refine fun (K:AK) hK=> ?_|(refine hK _ ?_;clear hK K))|simp only [go_sem,d0,d1,eG,h,f1,eT,eLT,eGk,lT,d2,Go.undef]|with_reducible refine wA ?_|clear hK K)
      rw [<-hrv];exact gd.of 40 rfl (by simp only [go_sem,Nat.reduceLT,Nat.reduceLeDiff,Nat.reduceEqDiff,Zi,Zj,and_self])
    ·have f1:(A.labs[k].toList==l.toList)=false:=by
      cases hh:(A.labs[k].toList==l.toList)
      ·rfl
      ·exact absurd (toList_inj.1 hh) he
     repeat (first|(with_reducible first|refine aw.up ?_|refine fun (K:AK) hK=> ?_|(refine hK _ ?_;clear hK K))|simp only [go_sem,d0,d1,eG,h,f1,Go.undef]|with_reducible refine wA ?_|clear hK K)
     refine aP eW ?_;exact az.mk (k+1) ⟨hlt,cont fun e=>absurd e he⟩ (by omega) (by exact aR ai)
   ·have hkn:k=A.labs.length:=by replace h:=bG h;omega
    have hno:look (A.rows.getD n []) l=none:=by
     cases hq:look (A.rows.getD n []) l with
     | none=>rfl
     | some t=>
      have hm:=(LO.row _ (aW (d:=[]) hn)).1.subset (List.mem_map_of_mem (f:=Prod.fst) (dH hq));obtain ⟨j,hj,e⟩:=List.getElem_of_mem hm;rw [<-hq];exact hall j hj (by omega) e
    rw [hno] at hrv
    ((iterate 3 revert K);refine au ?_)
    rw [<-hrv];exact gd.of 40 rfl (by simp only [go_sem,Nat.reduceLT,Nat.reduceLeDiff,Nat.reduceEqDiff,Zi,Zj,and_self])
 ·have eX:ck A s l=none:=by rw [ck,if_neg hv]
  rw [eX];simp only [stepT,Option.getD_none,Option.isSome_none]
  have d:decide ((0:Int)<=s)=false∨(decide ((0:Int)<=s)=true∧decide (s<(A.rows.length:Int))=false):=by
   by_cases q:0<=s
   ·exact .inr ⟨decide_eq_true q,decide_eq_false (by omega)⟩
   ·exact .inl (decide_eq_false q)
  rcases d with d0|⟨d0,d1⟩
  all_goals
   refine gE Tryz.func41 Tryz.ntmps41 Tryz.results41 ?_
   repeat (first|(with_reducible first|refine aw.up ?_|refine fun (K:AK) hK=> ?_|(refine hK _ ?_;clear hK K))|simp only [go_sem]|with_reducible refine wA ?_|clear hK K)
   refine bf (ι:=Nat) 9 (fun k=>[(8, .v (.int .i64 k))]) (fun k=>A.labs.length - k) (fun k=>k<=A.labs.length) 0 (WZ _) ?_ ?_
  ·refine bl ?_ ai
   all_goals rfl
  ·intro k hk K hK;have eW:=ak (k:=k) (by omega)
   (revert K;revert K;refine au ?_;intro K hK K hK K hK)
   refine bD.part (fun h=> ?_) (fun h=> ?_)
   ·have hlt:k<A.labs.length:=by replace h:=bG h;omega
    ((iterate 3 revert K);refine w9 d0 ?_)
    refine aP eW ?_;exact az.mk (k+1) hlt (by omega) (by exact aR ai)
   ·((iterate 3 revert K);refine au ?_)
    exact gd.of 40 rfl (by simp only [go_sem,Nat.reduceLT,Nat.reduceLeDiff,Nat.reduceEqDiff,Zi,Zj,and_self])
  ·refine bl ?_ ai
   all_goals rfl
  ·intro k hk K hK;have eW:=ak (k:=k) (by omega)
   (revert K;revert K;refine au ?_;intro K hK K hK K hK)
   refine bD.part (fun h=> ?_) (fun h=> ?_)
   ·have hlt:k<A.labs.length:=by replace h:=bG h;omega
    ((iterate 3 revert K);refine E3 d0 d1 ?_)
    refine aP eW ?_;exact az.mk (k+1) hlt (by omega) (by exact aR ai)
   ·((iterate 3 revert K);refine au ?_)
    exact gd.of 40 rfl (by simp only [go_sem,Nat.reduceLT,Nat.reduceLeDiff,Nat.reduceEqDiff,Zi,Zj,and_self])
theorem K3 {A:List Int} {n k:Nat} (hA:A.length=k) (h:k<n):ld (A++[0]) n=ld A n:=by
 subst hA;rw [ld,ld,show n - A.length=(n - (A++[(0:Int)]).length)+1 by rw [WX,YV];omega,YB];simp
theorem BN {l:List Nat} {n:Nat} (h:l.length=n):ld (bz l) n=aJ l:=by rw [s7 (by simpa [bz] using h),pP]
theorem nI (l:List Nat) (a:Nat):bz (l++[a])=bz l++[(a:Int)]:=by rw [bz,YT];rfl
theorem AO (l:List Nat):(bz l).length=l.length:=by simp [bz]
theorem wU (l:List Bool) {i:Nat} (h:i<l.length):(cB l).getD i []=[.v (.bool (l.getD i false))]:=by
 rw [cB,XR,Xe,Xb h,XR,Xb h];rfl
theorem NT (ends:List Bool) {i:Nat} (h:i<ends.length):p0 (ends.take (i+1))=p0 (ends.take i)++[if ends.getD i false then 1 else 0]:=by
 rw [p0,p0,Y3 h,YT,XR,Xb h];rfl
theorem PY {α:Type} [DecidableEq α]: ∀(keys:List α), ∀x∈(keys.foldl sx (([]:List α),([]:List Nat))).1,x∈keys:=by
 refine fB (fun x h=>by simp at h) ?_;intro l a ih x hx;rw [List.foldl_append] at hx;simp only [List.foldl_cons,List.foldl_nil,sx] at hx
 split at hx
 ·exact YL _ (ih x hx)
 ·rcases List.mem_append.1 hx with hx|hx
  ·exact YL _ (ih x hx)
  ·exact List.mem_append_right _ hx
theorem KF {labs:List ByteArray} {rows:List aX} {ends:List Bool} (hn:rows.length<=1000) (hE:ends.length=rows.length) (hR: ∀r∈rows,iR (r.map Prod.fst)) (hL: ∀r∈rows, ∀l∈r.map Prod.fst,l∈labs) (hs:p8 rows) (h0:0<rows.length) (hT: ∀r∈rows, ∀p∈r,p.2<rows.length) (hl:labs.length<=1000) :
  aq Tryz.prog 39 [.aB 1 (de (rows.map (fh labs))) rows.length, .aB 1 (cB ends) rows.length] (.aB 1 (aJ (bB rows ends)) rows.length):=by
 have hP:=Hi hR hL hs h0 (ends:=ends)
 have hA:aN 0 [AV.aB 1 (de (rows.map (fh labs))) rows.length, .aB 1 (cB ends) rows.length]=true:=by simp only [aN,AV.wf,kp,nj,YY]
 have hF:(AV.aB 1 (aJ (bB rows ends)) rows.length).wf 0=true:=by simp only [AV.wf,gL]
 rw [<-hP] at hF ⊢;generalize hrv:AV.aB 1 (aJ (ov labs rows (rows.length+1) (p0 ends) 1 true)) rows.length=rv at hF ⊢
 have eT: ∀i,i<rows.length->(de (rows.map (fh labs))).getD i []=[.aB 1 ((fh labs (rows.getD i [])).map encI) labs.length]:=fun i hi=>by
  rw [pO _ (by rw [XQ];exact hi),YN,dp,XR,Xb hi];rfl
 have eLT:(de (rows.map (fh labs))).length=rows.length:=by rw [dq,XQ]
 have eLE:(cB ends).length=rows.length:=by rw [eo,hE]
 generalize hnn:rows.length=n at *
 (refine aq.lC Tryz.func39 rfl (by kernel_rfl) (by kernel_rfl) rfl hA hF ?_;simp only [Tryz.ntmps39,Tryz.results39,WY,WS,Nat.reduceAdd,Nat.reduceSub,YB,List.replicate_zero,List.cons_append,List.nil_append])
 have eZ:=qj n
 repeat (first|(with_reducible first|refine aw.up ?_|refine fun (K:AK) hK=> ?_|(refine hK _ ?_;clear hK K))|simp only [go_sem,eZ]|with_reducible refine wA ?_|clear hK K)
 refine aV (ι:=Nat) 14 (fun i=>[(7, .v (.int .i64 i))]) (fun i=>[some ⟨3,1,true,ld (bz (p0 (ends.take i))) n⟩]) (fun i=>n - i) (fun i=>i<=n) 0 (WZ _) ?_ ?_
 ·simp only [List.take_zero,p0,Y5,bz];refine bl ?_ ai
  all_goals rfl
 ·intro i hi K hK;have eW:=ak (k:=i) (by omega)
  (revert K;revert K;refine au ?_;intro K hK K hK K hK)
  refine bD.part (fun h=> ?_) (fun h=> ?_)
  ·have hlt:i<n:=by replace h:=bG h;omega
   have eE:=wU ends (i:=i) (by omega);have eP:=NT ends (i:=i) (by omega)
   have lA:(bz (p0 (ends.take i))).length=i:=by rw [AO,p0,XQ,List.length_take];omega
   have eL0:(ld (bz (p0 (ends.take i))) n).length=n:=jr (by omega);have g0:=mY lA hlt;have sQ:=qi 1 lA hlt;have sK:=K3 lA hlt
   cases hb:ends.getD i false
   ·rw [hb] at eE eP
    repeat (first|(with_reducible first|refine aw.up ?_|refine fun (K:AK) hK=> ?_|(refine hK _ ?_;clear hK K))|simp only [go_sem,h,eE,eLE]|with_reducible refine wA ?_|clear hK K)
    refine aP eW ?_;refine az.mk (i+1) (by omega) (by omega) ?_;rw [eP,nI];simp only [Bool.false_eq_true,if_false,Int.natCast_zero];rw [sK];exact aR ai
   ·rw [hb] at eE eP
    repeat (first|(with_reducible first|refine aw.up ?_|refine fun (K:AK) hK=> ?_|(refine hK _ ?_;clear hK K))|simp only [go_sem,h,eE,eLE,eL0,g0,Zm,Zn,sQ]|with_reducible refine wA ?_|clear hK K)
    refine aP eW ?_;refine az.mk (i+1) (by omega) (by omega) ?_;rw [eP,nI];simp only [if_true];rw [show ((1:Nat):Int)=1 from rfl];exact aR ai
  ·have hin:i=n:=by replace h:=bG h;omega
   have e1:ld (bz (p0 (ends.take i))) n=aJ (p0 ends):=by
    rw [hin, <- hE,List.take_length];exact BN (by rw [p0,XQ])
   rw [e1]
   have lP:(aJ (p0 ends)).length=n:=by rw [aJ,XQ,p0,XQ,hE]
   repeat ((fail_if_success (with_reducible refine bm (i:=8) ?_));first|(with_reducible first|refine aw.up ?_|refine fun (K:AK) hK=> ?_|(refine hK _ ?_;clear hK K))|simp only [go_sem]|with_reducible refine wA ?_|clear hK K)
   refine a7 (fZ 5 0 rfl rfl rfl lP) (by kernel_rfl) ?_;simp only [YA,Yz]
   (revert K;revert K;refine au ?_;intro K hK)
   have hI: ∀part,n=rows.length->((fX labs rows part n).2=(dB rows part n).2∧(fX labs rows part n).1.length=(dB rows part n).1.length):=fun part e=>qh hR hL hs (by omega)
   refine bf (ι:=List Nat×Nat×Nat) 14 (fun y=>[(5, .aB 1 (aJ y.1) n),(6, .v (.int .i64 y.2.1)),(8, .v (.int .i64 y.2.2)),(9, .undef),(10, .undef),(11, .undef),(12, .undef),(13, .undef)]) (fun y=>n+1 - y.2.2) (fun y=>y.1.length=n∧y.2.1<=n+1∧y.2.2<=n+1∧AV.aB 1 (aJ (ov labs rows (n+1 - y.2.2) y.1 y.2.1 (y.2.2==0))) n=rv) (p0 ends,1,0) ⟨by rw [p0,XQ];exact hE,by show 1<=n+1;omega,WZ _,hrv⟩ ?_ ?_
   ·refine bl ?_ ai
    all_goals first|rfl|exact ⟨rfl,rfl⟩|trace_state
   ·rintro ⟨part,many,round⟩ ⟨q1,q2,q3,q4⟩ K hK;simp only at q1 q2 q3 q4;have eW2:=ak (k:=round) (by omega)
    (revert K;revert K;refine au ?_;intro K hK K hK K hK)
    refine bD.part (fun h2=> ?_) (fun h2=> ?_)
    ·have hrn:round<=n:=by replace h2:=bG h2;omega
     rw [show n+1 - round=(n - round)+1 by omega,ov,hnn] at q4
     repeat (first|(with_reducible first|refine aw.up ?_|refine fun (K:AK) hK=> ?_|(refine hK _ ?_;clear hK K))|simp only [go_sem,eZ]|with_reducible refine wA ?_|clear hK K)
     refine nB (ι:=Nat) 9 79 1 rfl (by decide) 14 (fun i=>[(9, .vec 2 (fX labs rows part i).1.length),(11, .v (.int .i64 i))]) (fun i=>[none,some ⟨3,1,true,ld (bz (fX labs rows part i).2) n⟩,some ⟨79,1,true,de (fX labs rows part i).1⟩]) (fun i=>n - i) (fun i=>i<=n) 0 (WZ _) ?_ ?_
     ·simp only [fX,List.range_zero,Y5,List.foldl_nil,bz];refine fm ?_ ?_ ai
      all_goals rfl
     ·intro i hi K hK
      have lPn:(aJ part).length=n:=by rw [aJ,XQ];exact q1
      have hIi:=qh (part:=part) hR hL hs (n:=i) (by omega);have okI:=gD rows part i
      have l2:(fX labs rows part i).2.length=i:=by rw [hIi.1];exact okI.len
      have l1:(fX labs rows part i).1.length<=i:=by rw [hIi.2];exact okI.le
      have hmem: ∀l∈(fX labs rows part i).1,l.length=labs.length+1:=fun l hl=>by
       obtain ⟨j,_,rfl⟩:=List.mem_map.1 (PY _ l hl);rw [il,WY,XQ,dp]
      have eS:fX labs rows part (i+1)=sx (fX labs rows part i) (il labs rows part i):=by rw [fX,List.range_succ,YT,List.foldl_append];rfl
      generalize hRR:fX labs rows part i=RR at *;obtain ⟨rr,nn⟩:=RR;simp only at l1 l2 hmem
      ((iterate 5 revert K);refine au ?_;iterate 6 intro K hK)
      refine bD.part (fun h3=> ?_) (fun h3=> ?_)
      ·have hlt:i<n:=by replace h3:=bG h3;omega
       have eP:(aJ part).getD i []=[.v (.int .i64 (part.getD i 0:Nat))]:=by rw [aJ,XR,Xe,Xb (by omega),XR,Xb (by omega)];rfl
       have eTi:=eT i hlt
       have lT:((fh labs (rows.getD i [])).map encI).length=labs.length:=by rw [XQ,dp]
       have lK:(il labs rows part i).length=labs.length+1:=by rw [il,WY,XQ,dp]
       repeat (first|(with_reducible first|refine aw.up ?_|refine fun (K:AK) hK=> ?_|(refine hK _ ?_;clear hK K))|simp only [go_sem,h3,eP,lPn]|with_reducible refine wA ?_|clear hK K)
       refine aV (ι:=Nat) 14 (fun k=>[(12, .vec 3 (k+1)),(13, .v (.int .i64 k))]) (fun k=>[none,some ⟨3,1,true,ld (bz nn) n⟩,some ⟨79,1,true,de rr⟩,some ⟨3,1,true,((il labs rows part i).take (k+1)).map encI⟩]) (fun k=>labs.length - k) (fun k=>k<=labs.length) 0 (WZ _) ?_ ?_
       ·simp only [il,List.take_succ_cons,List.take_zero,List.map_cons,Y5,encI];refine bl ?_ ai
        all_goals first|rfl|exact ⟨rfl,rfl⟩|trace_state
       ·intro k hk K hK;have eWk:=ak (k:=k) (by omega)
        repeat (first|(with_reducible first|refine aw.up ?_|refine fun (K:AK) hK=> ?_|(refine hK _ ?_;clear hK K))|simp only [go_sem,eTi,eLT]|with_reducible refine wA ?_|clear hK K)
        refine bD.part (fun h4=> ?_) (fun h4=> ?_)
        ·have hlk:k<labs.length:=by replace h4:=bG h4;omega
         have hkR:k<(fh labs (rows.getD i [])).length:=by rw [dp];exact hlk
         have eGk:=JM (fh labs (rows.getD i [])) hkR
         have lTk:(((il labs rows part i).take (k+1)).map encI).length=k+1:=by rw [XQ,List.length_take];omega
         have eN:((il labs rows part i).take (k+1)).map encI++[[.v (.int .i64 (if (fh labs (rows.getD i []))[k]<0 then -1 else ((part.getD ((fh labs (rows.getD i []))[k]).toNat 0:Nat):Int)))]]=((il labs rows part i).take (k+1+1)).map encI:=by
          rw [show (il labs rows part i).take (k+1+1)=(il labs rows part i).take (k+1)++[(il labs rows part i)[k+1]] from Y3 (by omega),YT]
          congr 1
          simp only [il,List.getElem_cons_succ,YN,List.map_cons,Y5,encI]
         have hrng: ¬(fh labs (rows.getD i []))[k]<0->((fh labs (rows.getD i []))[k]).toNat<n:=fun hh=>by
          simp only [fh,YN] at hh ⊢
          cases hq:look (rows.getD i []) labs[k] with
          | none=>rw [hq] at hh;exact absurd (by decide) hh
          | some t=>
           simp only [Int.toNat_natCast];exact hT _ (aW (d:=[]) (by omega)) _ (dH hq)
         generalize htt:(fh labs (rows.getD i []))[k]=tt at *
         by_cases ht:tt<0
         ·have d1:decide (tt<0)=true:=decide_eq_true ht;rw [if_pos ht] at eN
          repeat (first|(with_reducible first|refine aw.up ?_|refine fun (K:AK) hK=> ?_|(refine hK _ ?_;clear hK K))|simp only [go_sem,h4,eTi,eLT,eGk,lT,d1,lTk,eN]|with_reducible refine wA ?_|clear hK K)
          refine aP eWk ?_;refine az.mk (k+1) (by omega) (by omega) ?_;exact aR ai
         ·have d1:decide (tt<0)=false:=decide_eq_false ht;have hrn2:=hrng ht;have hnat:((tt.toNat:Nat):Int)=tt:=Int.toNat_of_nonneg (by omega);rw [if_neg ht] at eN;generalize tt.toNat=tn at *;subst hnat
          have eP2:(aJ part).getD tn []=[.v (.int .i64 (part.getD tn 0:Nat))]:=by rw [aJ,XR,Xe,Xb (by omega),XR,Xb (by omega)];rfl
          repeat (first|(with_reducible first|refine aw.up ?_|refine fun (K:AK) hK=> ?_|(refine hK _ ?_;clear hK K))|simp only [go_sem,h4,eTi,eLT,eGk,lT,d1,lTk,eN,eP2,lPn]|with_reducible refine wA ?_|clear hK K)
          refine aP eWk ?_;refine az.mk (k+1) (by omega) (by omega) ?_;exact aR ai
        ·have hkl:k=labs.length:=by replace h4:=bG h4;omega
         rw [hkl,show (il labs rows part i).take (labs.length+1)=il labs rows part i by rw [<-lK,List.take_length]]
         repeat ((fail_if_success (with_reducible refine bm (i:=23) ?_));first|(with_reducible first|refine aw.up ?_|refine fun (K:AK) hK=> ?_|(refine hK _ ?_;clear hK K))|simp only [go_sem]|with_reducible refine wA ?_|clear hK K)
         refine a7 (fZ 12 3 rfl rfl rfl (by rw [XQ,lK])) (by kernel_rfl) ?_;simp only [YA,Yz];have AT:=IU rr (il labs rows part i) (by omega) (fun l hl=>by have:=hmem l hl;omega) (by omega);rw [PR] at AT;rw [lK] at AT;rw [sx] at eS;simp only at eS
         have lN:(bz nn).length=i:=by rw [AO];exact l2
         have eL0:(ld (bz nn) n).length=n:=jr (by omega);have g0:=mY lN hlt;have sQ:=fun v=>qi v lN hlt;have gQ:=fun u=>zm (n:=n) u lN;have sR:=fun u v=>vg (n:=n) u v lN;have eL2: ∀v:Int,(ld (bz nn++[v]) n).length=n:=fun v=>jr (by rw [WX,YV];omega);have eWi:=ak (k:=i) (by omega)
         ((iterate 7 revert K);refine au ?_;iterate 8 intro K hK)
         cases hp:rr.findIdx? (fun y=>decide (il labs rows part i=y)) with
         | some j=>
          rw [hp] at AT eS;simp only at AT eS;have d2:decide ((j:Int)<0)=false:=decide_eq_false (by omega);refine aa.GD AT 8 rfl (by simp only [go_sem,Nat.reduceLT,Nat.reduceLeDiff,Nat.reduceEqDiff,Zi,Zj,and_self,kp,dq]) rfl ?_
          repeat (first|(with_reducible first|refine aw.up ?_|refine fun (K:AK) hK=> ?_|(refine hK _ ?_;clear hK K))|simp only [go_sem,eL0,g0,Zm,Zn,sQ,d2,gQ,eL2]|with_reducible refine wA ?_|clear hK K)
          refine aP eWi ?_;refine az.mk (i+1) (by omega) (by omega) ?_;rw [eS,nI];exact aR ai
         | none=>
          rw [hp] at AT eS;simp only at AT eS
          have eLr:de rr++[[AV.aB 1 ((il labs rows part i).map encI) (labs.length+1)]]=de (rr++[il labs rows part i]):=by
           rw [de,de,YT, <- lK];rfl
          refine aa.GD AT 8 rfl (by simp only [go_sem,Nat.reduceLT,Nat.reduceLeDiff,Nat.reduceEqDiff,Zi,Zj,and_self,kp,dq]) rfl ?_
          repeat (first|(with_reducible first|refine aw.up ?_|refine fun (K:AK) hK=> ?_|(refine hK _ ?_;clear hK K))|simp only [go_sem,eL0,g0,Zm,Zn,sQ,gQ,eL2]|with_reducible refine wA ?_|clear hK K)
          refine P8 eL2 gQ sR eLr ?_;refine aP eWi ?_;refine az.mk (i+1) (by omega) (by omega) ?_;rw [eS,nI];simp only [WX,WY,WS];exact aR ai
      ·have hin:i=n:=by replace h3:=bG h3;omega
       rw [hin] at hRR l2;rw [hRR] at q4;simp only at q4;rw [BN l2]
       have lNN:(aJ nn).length=n:=by rw [aJ,XQ];exact l2
       repeat ((fail_if_success (with_reducible refine bm (i:=27) ?_));first|(with_reducible first|refine aw.up ?_|refine fun (K:AK) hK=> ?_|(refine hK _ ?_;clear hK K))|simp only [go_sem]|with_reducible refine wA ?_|clear hK K)
       refine a7 (fZ 10 1 rfl rfl rfl lNN) (by kernel_rfl) ?_;simp only [YA,Yz]
       have next:(¬(rr.length=many∧(round==0)=false))->AV.aB 1 (aJ (ov labs rows (n+1 - (round+1)) nn rr.length (round+1==0))) n=rv:=fun hno=>by
        rw [if_neg hno] at q4;rw [show n+1 - (round+1)=n - round by omega,show (round+1==0)=false by simp];exact q4
       by_cases hm:rr.length=many
       ·have d1:((rr.length:Int)==(many:Int))=true:=by simp [hm]
        by_cases hr0:0<round
        ·have d2:decide ((0:Int)<(round:Int))=true:=decide_eq_true (by omega);rw [if_pos ⟨hm,by simp;omega⟩] at q4
         ((iterate 4 revert K);refine E3 d1 d2 ?_)
         rw [<-q4];exact bI.wk (gL _ _)
        ·have d2:decide ((0:Int)<(round:Int))=false:=decide_eq_false (by omega)
         have q5:=next fun q=>by have:=q.2;simp at this;omega
         ((iterate 4 revert K);refine E3 d1 d2 ?_)
         refine aP eW2 ?_;refine az.mk (nn,rr.length,round+1) ⟨l2,by show rr.length<=n+1;omega,by show round+1<=n+1;omega,q5⟩ (by show n+1 - (round+1)<n+1 - round;omega) ?_;exact aR ai
         all_goals trace_state
       ·have d1:((rr.length:Int)==(many:Int))=false:=by simp [Int.natCast_inj,hm]
        have q5:=next fun q=>hm q.1
        ((iterate 4 revert K);refine w9 d1 ?_)
        refine aP eW2 ?_;refine az.mk (nn,rr.length,round+1) ⟨l2,by show rr.length<=n+1;omega,by show round+1<=n+1;omega,q5⟩ (by show n+1 - (round+1)<n+1 - round;omega) ?_;exact aR ai
        all_goals trace_state
    ·have hrn:round=n+1:=by replace h2:=bG h2;omega
     rw [hrn,Nat.sub_self,ov] at q4
     ((iterate 3 revert K);refine au ?_)
     rw [<-q4];exact bI.wk (gL _ _)
def Rh (a b:ByteArray):Bool:=Op.bytesLess a.toList b.toList
theorem Fa {a b:ByteArray}:Rh a b=true↔a.data.toList<b.data.toList:=by
 rw [Rh,bytesLess_eq,decide_eq_true_eq,ByteArray.toList_eq,ByteArray.toList_eq]
def b8 (l:List ByteArray):List ByteArray:=(Go.Lib.compact ((l.map (fun s=>s.data.toList)).mergeSort (fun x y=>decide (x<=y)))).map (fun l=>⟨l.toArray⟩)
theorem D9 (x:Ex):b8 (aD x)=bR x:=rfl
theorem jN (l:List ByteArray):iR (b8 l):=by
 rw [iR,b8,List.pairwise_map]
 exact (kN _).1.imp fun h=>by simpa using h
theorem iq {l:List ByteArray} {s:ByteArray}:s∈b8 l↔s∈l:=by
 rw [b8,List.mem_map]
 constructor
 ·rintro ⟨l,h,rfl⟩
  have:=((kN _).2 l).1 h
  obtain ⟨t,h1,rfl⟩:=List.mem_map.1 this;simpa using h1
 ·intro h;exact ⟨s.data.toList,((kN _).2 _).2 (List.mem_map_of_mem h),by simp⟩
theorem Hp (l:List ByteArray):(b8 l).length<=l.length:=(lX (jN l)).length_le_of_subset fun _ h=>iq.1 h
theorem Hq:b8 []=[]:=by
 cases h:b8 [] with
 | nil=>rfl
 | cons a l=>
  have:a∈b8 []:=by rw [h];exact List.mem_cons_self
  exact absurd (iq.1 this) (by simp)
structure Me (l:List ByteArray) (s:ByteArray) (k:Nat):Prop where
 le:k<=l.length
 lo: ∀(j:Nat) (h:j<l.length),j<k->Rh l[j] s=true
 hi: ∀h:k<l.length,Rh l[k] s=false
theorem GO {L:List ByteArray} {s:ByteArray} {k:Nat} (hk:k<(b8 L).length) (e:(b8 L)[k]=s):b8 L=b8 (L++[s]):=by
 refine k9 (jN _) (jN _) fun t=> ?_;rw [iq,iq,YP,YO];refine ⟨.inl,fun h=> ?_⟩
 rcases h with h|rfl
 ·exact h
 ·rw [<-e];exact iq.1 (Ym hk)
theorem Nh {L:List ByteArray} {s:ByteArray} {k:Nat} (h:Me (b8 L) s k) (hne: ∀hk:k<(b8 L).length,(b8 L)[k]≠s):(b8 L).take k++s :: (b8 L).drop k=b8 (L++[s]):=by
 have R:=jN L
 refine k9 ?_ (jN _) fun t=> ?_
 ·rw [iR,List.pairwise_append,List.pairwise_cons]
  have lo: ∀a∈(b8 L).take k,a.data.toList<s.data.toList:=fun a ha=>by
   obtain ⟨j,hj,rfl⟩:=List.getElem_of_mem ha;rw [List.length_take] at hj;rw [List.getElem_take];exact Fa.1 (h.lo j (by omega) (by omega))
  have hi: ∀a∈(b8 L).drop k,s.data.toList<a.data.toList:=fun a ha=>by
   obtain ⟨j,hj,rfl⟩:=List.getElem_of_mem ha;rw [List.length_drop] at hj;rw [List.getElem_drop]
   have hk:k<(b8 L).length:=by omega
   have h1: ¬(b8 L)[k].data.toList<s.data.toList:=fun q=>by
    have:=h.hi hk;rw [Fa.2 q] at this;cases this
   have h2:s.data.toList<(b8 L)[k].data.toList:=by
    refine Classical.byContradiction fun q=>hne hk ?_
    have:=List.le_antisymm (List.not_lt.1 q) (List.not_lt.1 h1)
    exact ByteArray.ext (Array.toList_inj.1 this)
   cases j with
   | zero=>exact h2
   | succ j=>exact List.lt_trans h2 (List.pairwise_iff_getElem.1 R k (k+(j+1)) hk (by omega) (by omega))
  exact ⟨R.sublist (List.take_sublist _ _),⟨fun a ha=>hi a ha,R.sublist (List.drop_sublist _ _)⟩,fun a ha b hb=>by
   rcases List.mem_cons.1 hb with rfl|hb
   ·exact lo a ha
   ·exact List.lt_trans (lo a ha) (hi b hb)⟩
 ·rw [iq,YP,YP,List.mem_cons,YO]
  have:t∈L↔t∈(b8 L).take k∨t∈(b8 L).drop k:=by
   rw [<-iq, <- YP,List.take_append_drop]
  rw [this]
  constructor
  ·rintro (h|h|h)
   ·exact .inl (.inl h)
   ·exact .inr h
   ·exact .inl (.inr h)
  ·rintro ((h|h)|h)
   ·exact .inl h
   ·exact .inr (.inr h)
   ·exact .inr (.inl h)
theorem Fg {rows:List aX}: ∀(f:Nat) {part:List Nat} {many:Nat},(∀s,s<rows.length->part.getD s 0<rows.length)-> ∀s,s<rows.length->(oa rows f part many).getD s 0<rows.length
 | 0,part,many,h=>by rw [oa];exact h
 | f+1,part,many,h=>by
  have hN: ∀s,s<rows.length->(dT rows part).getD s 0<rows.length:=fun s hs=>Nat.lt_of_lt_of_le (jM rows hs) (mU rows part);rw [oa]
  split
  ·exact hN
  ·exact Fg f hN
theorem Hj {rows:List aX} {ends:List Bool} {s:Nat} (hs:s<rows.length):(bB rows ends).getD s 0<rows.length:=by
 have hN: ∀s,s<rows.length->(dT rows (p0 ends)).getD s 0<rows.length:=fun s hs=>Nat.lt_of_lt_of_le (jM rows hs) (mU rows (p0 ends));rw [bB,show rows.length+2=(rows.length+1)+1 from rfl,oa]
 split
 ·exact hN s hs
 ·exact Fg _ hN s hs
def Bk (part order:List Nat) (n:Nat):List Int:=(List.range n).map (fun p=>match iW part order p with
 | some k=>(k:Int)
 | none=> -1)
theorem mT (part order:List Nat) (n:Nat):(Bk part order n).length=n:=by simp [Bk]
theorem sU {part order:List Nat} {n p:Nat} (h:p<n):(Bk part order n)[p]? = some (match iW part order p with
 | some k=>(k:Int)
 | none=> -1):=by rw [Bk,List.getElem?_map,List.getElem?_range h];rfl
theorem Hm (part order:List Nat) (t x:Nat):iW part (order++[t]) x=match iW part order x with
 | some k=>some k
 | none=>if x=part.getD t 0 then some order.length else none:=by
 rw [iW,List.map_append,List.findIdx?_append];rw [iW]
 cases (order.map (fun s=>part.getD s 0)).findIdx? (fun y=>x==y) with
 | some k=>rfl
 | none=>
  simp only [List.map_cons,List.map_nil,List.findIdx?_cons,List.findIdx?_nil,Option.none_or,XQ]
  by_cases h:x=part.getD t 0
  ·rw [if_pos h,beq_iff_eq.2 h];simp
  ·rw [if_neg h,beq_eq_false_iff_ne.2 h];simp
theorem Kv {part order:List Nat} {n t:Nat} (hn:iW part order (part.getD t 0)=none) (hp:part.getD t 0<n):(Bk part order n).set (part.getD t 0) (order.length:Int)=Bk part (order++[t]) n:=by
 refine List.ext_getElem? fun i=> ?_
 by_cases hi:i<n
 ·rw [sU hi,Hm]
  by_cases e:part.getD t 0=i
  ·subst e;rw [List.getElem?_set_self (by rw [mT];exact hi),hn];simp
  ·rw [List.getElem?_set_ne e,sU hi]
   cases iW part order i with
   | some k=>rfl
   | none=>simp only [if_neg (fun q=>e (Eq.symm q))]
 ·rw [Xg (by rw [List.length_set,mT];omega),Xg (by rw [mT];omega)]
theorem Hc (part:List Nat) (n:Nat):Bk part [] n=List.replicate n (-1):=by
 refine List.ext_getElem? fun i=> ?_
 by_cases hi:i<n
 ·rw [sU hi,List.getElem?_replicate,if_pos hi];rfl
 ·rw [Xg (by rw [mT];omega),Xg (by rw [List.length_replicate];omega)]
def Eb (part:List Nat) (row:aX) (labs:List ByteArray) (order:List Nat):List Nat:=labs.foldl (fun o l=>zl part o (look row l)) order
theorem BK (part:List Nat) (row:aX) (labs:List ByteArray) (l:ByteArray) (order:List Nat):Eb part row (labs++[l]) order=zl part (Eb part row labs order) (look row l):=by rw [Eb,List.foldl_append];rfl
theorem QK {part:List Nat} {row:aX} {n:Nat} {order:List Nat} (hn:(order.map (fun s=>part.getD s 0)).Nodup) (hl: ∀s∈order,s<n) (hT: ∀p∈row,p.2<n): ∀labs:List ByteArray,
  ((Eb part row labs order).map (fun s=>part.getD s 0)).Nodup∧(∀s∈Eb part row labs order,s<n)∧ ∃t,Eb part row labs order=order++t:=by
 refine fB ⟨hn,hl,[],by simp [Eb]⟩ ?_;rintro labs l ⟨h1,h2,t,h3⟩;rw [BK]
 cases hq:look row l with
 | none=>exact ⟨h1,h2,t,h3⟩
 | some u=>
  rw [zl]
  cases hp:iW part (Eb part row labs order) (part.getD u 0) with
  | some k=>exact ⟨h1,h2,t,h3⟩
  | none=>
   refine ⟨?_,fun s hs=> ?_,t++[u],by rw [h3,List.append_assoc]⟩
   ·simp only [List.map_append,List.map_cons,List.map_nil];rw [List.nodup_append];refine ⟨h1,by simp,fun a ha b hb=> ?_⟩;rw [YO] at hb;rintro rfl;exact (xG part).1 hp (hb ▸ ha)
   ·rcases YP.1 hs with hs|hs
    ·exact h2 s hs
    ·rw [YO] at hs;subst hs;exact hT _ (dH hq)
theorem DJ (x:Ex): ∀(L:List ByteArray),aC x=true->L.length+(aD x).length<=1000->aq Tryz.prog 68 [.agg (aM x),aS (b8 L)] (aS (b8 (L++aD x))):=by
 induction x using Ex.ind with
 | h kd s l ih=>
  intro L hr hN;have hRL:=Hp L
  have hF:(aS (b8 (L++aD (.mk kd s l)))).wf 0=true:=by simp only [aS,AV.wf,aO]
  have hA:aN 0 [AV.agg (aM (.mk kd s l)),aS (b8 L)]=true:=by simp only [aS,aN,AV.wf,dL,aO,Bool.and_self]
  by_cases hk:kd=1
  ·subst hk
   have eL:aD (.mk 1 s l)=[s]:=by rw [aD,if_pos rfl]
   rw [eL] at hF hN ⊢;have hT:=fun k (q:k<(b8 L).length) (e:(b8 L)[k]=s)=>GO q e;have hI:=fun k (q:Me (b8 L) s k) h=>Nh q h;generalize hrv:aS (b8 (L++[s]))=rv at hF ⊢;generalize b8 L=m at *;simp only [List.length_append,List.length_singleton] at hN;simp only [aA,aS,Ex.kind,Ex.label,Ex.kids] at hA hrv ⊢
   (refine aq.lC Tryz.func68 rfl (by kernel_rfl) (by kernel_rfl) rfl hA hF ?_;simp only [Tryz.ntmps68,Tryz.results68,List.length_cons,List.length_nil,Nat.reduceAdd,Nat.reduceSub,List.replicate_succ,List.replicate_zero,List.cons_append,List.nil_append])
   (refine ma ?_;intro K hK K hK)
   refine bf (ι:=Nat) 8 (fun k=>[(5, .v (.int .i64 k))]) (fun k=>m.length - k) (fun k=>k<=m.length∧ ∀(j:Nat) (h:j<m.length),j<k->Rh m[j] s=true) 0 ⟨Nat.zero_le _,fun j _ h=>absurd h (Nat.not_lt_zero _)⟩ ?_ ?_
   ·refine bl ?_ ai
    all_goals rfl
   ·rintro k ⟨hk,hlo⟩ K hK;have eW:=ak (k:=k) (by omega)
    have fin: ∀(h:Me m s k),(∀q:k<m.length,m[k]≠s)->AV.aB 1 ((m.take k).map encS++([AV.v (.string s)] :: (m.drop k).map encS)) (k+(m.length - k+1))=rv:=fun h hne=>by
     have e:=hI k h hne
     have el:(k+(m.length - k+1))=(b8 (L++[s])).length:=by rw [<-e];simp;omega
     rw [<-hrv,el, <- e];simp [encS]
    have r1:((m.map encS).drop k).take (m.length - k)=(m.drop k).map encS:=by
     rw [<-List.map_drop];exact List.take_of_length_le (by simp)
    have r2:(m.drop k).length=m.length - k:=by simp
    have r3:(m.map encS).take k=(m.take k).map encS:=by rw [List.map_take]
    have r4:(m.take k).length=k:=by simp;omega
    by_cases d1:k<m.length
    ·have e1:decide ((k:Int)<(m.length:Int))=true:=decide_eq_true (by omega);have eG:=getD_map encS m k [] d1;simp only [encS] at eG
     cases e2:Rh m[k] s
     ·have hin:Me m s k:=⟨hk,hlo,fun _=>e2⟩;have e3:Op.bytesLess m[k].toList s.toList=false:=e2
      by_cases he:m[k]=s
      ·have f1:(m[k].toList==s.toList)=true:=by rw [he];simp
       have hrr:=hT k d1 he
       repeat (first|(with_reducible first|refine aw.up ?_|refine fun (K:AK) hK=> ?_|refine wD ?_|refine ae (by decide) ?_|refine ag (by decide) ?_|(refine hK _ ?_;clear hK K))|simp only [go_sem,e1,eG,e3,f1,Go.undef]|with_reducible refine wA ?_|(refine cv rfl ?_)|clear hK K)
       rw [<-hrv, <- hrr];exact bI.wk (aO 0 _)
      ·have f1:(m[k].toList==s.toList)=false:=by
        cases hh:(m[k].toList==s.toList)
        ·rfl
        ·exact absurd (toList_inj.1 hh) he
       have hf:=fin hin fun _=>he
       repeat ((fail_if_success (with_reducible refine bm (i:=7) ?_));first|(with_reducible first|refine aw.up ?_|refine fun (K:AK) hK=> ?_|refine wD ?_|refine ae (by decide) ?_|refine ag (by decide) ?_|(refine hK _ ?_;clear hK K))|simp only [go_sem,e1,eG,e3,f1,Go.undef]|with_reducible refine wA ?_|(refine cv rfl ?_)|clear hK K)
       refine bA [2,6] [(5,0)] (by decide+kernel) (by kernel_rfl) ?_
       repeat (first|(with_reducible first|refine aw.up ?_|refine fun (K:AK) hK=> ?_|refine ae (by decide) ?_|refine ag (by decide) ?_|(refine hK _ ?_;clear hK K))|simp only [go_sem,r1,r2,r3,r4,XQ]|with_reducible refine wA ?_|(refine cv rfl ?_)|clear hK K)
       rw [<-hf];exact bI.B7 (ob:=⟨9,1,true,(m.take k).map encS++([AV.v (.string s)] :: (m.drop k).map encS)⟩) rfl rfl (by simp;omega) (by rw [gJ,aO];exact aO 0 (s :: m.drop k))
     ·have e3:Op.bytesLess m[k].toList s.toList=true:=e2
      repeat (first|(with_reducible first|refine aw.up ?_|refine fun (K:AK) hK=> ?_|refine wD ?_|refine ae (by decide) ?_|refine ag (by decide) ?_|(refine hK _ ?_;clear hK K))|simp only [go_sem,e1,eG,e3,Go.undef]|with_reducible refine wA ?_|(refine cv rfl ?_)|clear hK K)
      refine xa eW ?_
      exact az.mk (k+1) ⟨d1,fun j hj hjk=>by
       rcases Nat.lt_succ_iff_lt_or_eq.1 hjk with q|rfl
       ·exact hlo j hj q
       ·exact e2⟩ (by omega) (by exact aR ai)
    ·have e1:decide ((k:Int)<(m.length:Int))=false:=decide_eq_false (by omega);have hf:=fin ⟨hk,hlo,fun h=>absurd h d1⟩ fun h=>absurd h d1
     repeat ((fail_if_success (with_reducible refine bm (i:=7) ?_));first|(with_reducible first|refine aw.up ?_|refine fun (K:AK) hK=> ?_|refine wD ?_|refine ae (by decide) ?_|refine ag (by decide) ?_|(refine hK _ ?_;clear hK K))|simp only [go_sem,e1,Go.undef]|with_reducible refine wA ?_|(refine cv rfl ?_)|clear hK K)
     refine bA [2,6] [(5,0)] (by decide+kernel) (by kernel_rfl) ?_
     repeat (first|(with_reducible first|refine aw.up ?_|refine fun (K:AK) hK=> ?_|refine ae (by decide) ?_|refine ag (by decide) ?_|(refine hK _ ?_;clear hK K))|simp only [go_sem,r1,r2,r3,r4,XQ]|with_reducible refine wA ?_|(refine cv rfl ?_)|clear hK K)
     rw [<-hf];exact bI.B7 (ob:=⟨9,1,true,(m.take k).map encS++([AV.v (.string s)] :: (m.drop k).map encS)⟩) rfl rfl (by simp;omega) (by rw [gJ,aO];exact aO 0 (s :: m.drop k))
  ·have eL:aD (.mk kd s l)=aK l:=cW hk s l;rw [eL] at hF hN ⊢
   have hlen:l.length<=1000:=by
    have:=(dN hr).1
    simp only [aC,Bool.and_eq_true,decide_eq_true_eq] at hr;have h2:=gr kd s l;have h3:=tY l;omega
   simp only [aA,aS,Ex.kind,Ex.label,Ex.kids] at hA ⊢
   have f1:(kd==1)=false:=by simpa using hk
   refine gE Tryz.func68 Tryz.ntmps68 Tryz.results68 ?_
   (refine xa f1 ?_;intro K hK)
   refine bf (ι:=Nat) 8 (fun i=>[(1, .aB 1 ((b8 (pg L l i)).map encS) (b8 (pg L l i)).length),(7, .v (.int .i64 i))]) (fun i=>l.length - i) (fun i=>i<=l.length) 0 (Nat.zero_le _) ?_ ?_
   ·rw [Pd];refine bl ?_ ai
    all_goals rfl
   ·intro i hi K hK;have eW:=ak (k:=i) (by omega)
    (revert K;revert K;refine ma ?_;intro K hK K hK K hK)
    refine bD.part (fun h=> ?_) (fun h=> ?_)
    ·have hlt:i<l.length:=by replace h:=bG h;omega
     have eG:=getD_map aM l i [] hlt;have C:=ih l[i] (Ym hlt) (pg L l i) (lW hr _ (Ym hlt)) (J7 hlt hN);rw [uA hlt] at C;simp only [aA,aS] at C eG
     repeat (first|(with_reducible first|refine aw.up ?_|refine fun (K:AK) hK=> ?_|refine wD ?_|refine ae (by decide) ?_|refine ag (by decide) ?_|(refine hK _ ?_;clear hK K))|simp only [go_sem,h,eG]|with_reducible refine wA ?_|(refine cv rfl ?_)|clear hK K)
     refine aa.one C ?_
     ((iterate 4 revert K);refine xa eW ?_)
     refine az.mk (i+1) (by omega) (by omega) ?_;exact aR ai
    ·have hin:i=l.length:=by replace h:=bG h;omega
     have e:pg L l i=L++aK l:=by rw [hin,pg,List.take_length]
     rw [e]
     ((iterate 3 revert K);refine ma ?_)
     exact gd.aB (aO 0 _)
theorem Hr (x:Ex) (hr:aC x=true) (h1:(aj x).length<=1000000) (hz: ∀z,z∈aj x->z.kids.length<=1000000∧z.label.size<=1000000000000000):aq Tryz.prog 37 [.agg (aM x)] (aS (bR x)):=by
 have R:=nP x h1 hz;rw [hr] at R;have hn:=ri hr;have C:=DJ x [] hr (by simp;omega);rw [List.nil_append,D9,Hq] at C;have C2:=C.le (args':=[.agg (aM x), .v (.slice none 0 0)]) (by simp only [aN,AV.wf,dL,Bool.and_self]) (.cons (.refl _) (.cons (.nil 1) .nil));simp only [aA,aS] at *;refine gE Tryz.func37 Tryz.ntmps37 Tryz.results37 ?_
 (refine bq ?_;intro K hK K hK K hK)
 refine aa.one R ?_
 ((iterate 3 revert K);refine bq ?_;intro K hK K hK)
 refine aa.one C2 ?_
 (revert K;revert K;refine bq ?_)
 exact gd.aB (aO 0 _)
noncomputable def DQ (x:Ex):AV:=match gU x (bR x) with
 | .inl A=> .cI [.vp (iK A), .v (.int .i64 0)]
 | .inr e=> .cI [.v (.pointer none), .v (.int .i64 e)]
theorem OE (x:Ex):(DQ x).wf 0=true:=by
 unfold DQ
 split
 ·simp only [AV.wf,aN,qx,Bool.and_self]
 ·rfl
def oZ (part order:List Nat) (n:Nat):List (List AV):=(Bk part order n).map encI
def KT (part order:List Nat) (p:Nat):Int:=match iW part order p with
 | some k=>(k:Int)
 | none=> -1
@[go_sem] theorem Uo (z:Nat) (part order:List Nat) (n:Nat):bj z (oZ part order n)=true:=bw _ (fun _=>rfl) _
@[go_sem] theorem uV (part order:List Nat) (n:Nat):(oZ part order n).length=n:=by rw [oZ,XQ,mT]
theorem uU {part order:List Nat} {n p:Nat} (h:p<n):(oZ part order n).getD p []=[.v (.int .i64 (KT part order p))]:=by
 rw [oZ,XR,Xe,sU h];rfl
theorem Bj {part order:List Nat} {n t:Nat} (hn:iW part order (part.getD t 0)=none) (hp:part.getD t 0<n):(oZ part order n).set (part.getD t 0) [.v (.int .i64 (order.length:Nat))]=oZ part (order++[t]) n:=by
 rw [oZ,oZ, <- Kv hn hp,List.map_set];rfl
theorem Hb (part:List Nat) (n:Nat):ld (List.replicate n (-1)) n=oZ part [] n:=by rw [s7 (by simp),oZ,Hc]
def uW (x:Ex) (labs:List ByteArray) (c d:AV) (tl:List (Option ab)):List (Option ab):=some ⟨25,3,false,[[.v (.int .i64 x.kind), .v (.string x.label), .aB 3 (x.kids.map aM) x.kids.length]]⟩ :: some ⟨76,3,false,[[.aB 1 (labs.map encS) labs.length,c,d]]⟩ :: tl
theorem pQ (l:List Nat):(aJ l).length=l.length:=by rw [aJ,XQ]
theorem mI {l:List Nat} {i:Nat} (h:i<l.length):(aJ l).getD i []=[.v (.int .i64 ((l.getD i 0:Nat):Int))]:=by
 rw [aJ,XR,Xe,Xb h,XR,Xb h];rfl
theorem Gr (l:List Nat) (a:Nat):aJ (l++[a])=aJ l++[[.v (.int .i64 (a:Nat))]]:=by rw [aJ,YT];rfl
theorem y7 (x:Ex) (h1:(aj x).length<=1000000) (hz: ∀z,z∈aj x->z.kids.length<=1000000∧z.label.size<=1000000000000000):aq Tryz.prog 10 [.agg (aM x)] (DQ x):=by
 have CN:=nP x h1 hz;have hF:=OE x
 have hA:aN 0 [AV.agg (aM x)]=true:=by simp only [aN,AV.wf,dL,Bool.and_self]
 have hu:DQ x=(if aC x then (match ng x (bR x) with
  | some st=>if 32<(gy (bR x) st).rows.length then .cI [.v (.pointer none), .v (.int .i64 11)] else .cI [.vp (iK (gy (bR x) st)), .v (.int .i64 0)]
  | none=> .cI [.v (.pointer none), .v (.int .i64 11)]) else .cI [.v (.pointer none), .v (.int .i64 2)]):=by
  unfold DQ gU
  cases aC x
  ·rfl
  ·simp only [if_true]
   cases ng x (bR x) with
   | none=>rfl
   | some st=>
    by_cases h32:32<(gy (bR x) st).rows.length
    ·simp only [if_pos h32]
    ·simp only [if_neg h32]
 rw [hu] at hF ⊢;clear hu
 cases hr:aC x
 ·rw [hr] at CN hF;simp only [Bool.false_eq_true,if_false] at CN hF ⊢;simp only [aA] at *;refine gE Tryz.func10 Tryz.ntmps10 Tryz.results10 ?_
  (refine fV ?_;intro K hK K hK K hK)
  refine aa.one CN ?_
  ((iterate 3 revert K);refine fV ?_)
  (refine gd.of 40 rfl ?_;simp only [go_sem])
 ·have CL:=Hr x hr h1 hz;rw [hr] at CN hF;simp only [if_true] at CN hF ⊢;have hln:=yP hr;have hlE:=ri hr;have CS:=K9 hr h1 hz (bR x) (jl x) (by omega) (by omega)
  cases hst:ng x (bR x) with
  | none=>
   rw [hst] at CS hF;simp only [nf] at CS;simp only [aA,aS] at *;refine gE Tryz.func10 Tryz.ntmps10 Tryz.results10 ?_
   (refine fV ?_;intro K hK K hK K hK)
   refine aa.one CN ?_
   ((iterate 3 revert K);refine fV ?_;intro K hK K hK)
   refine aa.one CL ?_
   (revert K;revert K;refine fV ?_;intro K hK K hK)
   refine aE.one CS ?_
   (revert K;revert K;refine fV ?_)
   (refine gd.of 40 rfl ?_;simp only [go_sem])
  | some ss=>
   rw [hst] at CS hF;obtain ⟨ho,hl,hw⟩:=zq (aU (aT x)) (aT x).em (ar (aT x).la) (jl x) hst;obtain ⟨g1,g2,g3⟩:=La hr hst;have hmax:=ho.max;have hE:=ho.ends;have hT:=rI ho hl;have hN:=Ft (jl x) ho;have hsub: ∀r∈ss.rows,(r.map Prod.fst).Sublist (bR x):=fun r h=>(ho.row r h).1;have CP:=KF (labs:=bR x) (rows:=ss.rows) (ends:=ss.ends) (by omega) hE (fun r h=>(nJ x).sublist (hsub r h)) (fun r h l hl=>(hsub r h).subset hl) (rH (yQ hr) ho) g2 hT (by omega);have hpl: ∀s,s<ss.rows.length->(bB ss.rows ss.ends).getD s 0<ss.rows.length:=fun s hs=>Hj hs;obtain ⟨qo,ql,qw⟩:=Ba (ends:=ss.ends) hT hN g2 (bB ss.rows ss.ends);have hnd:=jl x;have hLd:cA ss.rows ss.ends (bB ss.rows ss.ends)=mv ss.rows ss.ends (bB ss.rows ss.ends) (ss.rows.length+1) q0:=rfl;simp only [nf,hE] at CS;simp only at hF ⊢;generalize hrv:(if 32<(gy (bR x) ss).rows.length then AV.cI [.v (.pointer none), .v (.int .i64 11)] else .cI [.vp (iK (gy (bR x) ss)), .v (.int .i64 0)])=rv at hF ⊢
   have hv1:32<(cA ss.rows ss.ends (bB ss.rows ss.ends)).rows.length->AV.cI [.v (.pointer none), .v (.int .i64 11)]=rv:=fun h=>by rw [<-hrv];exact (if_pos h).symm
   have hv2: ¬ 32<(cA ss.rows ss.ends (bB ss.rows ss.ends)).rows.length->AV.cI [.vp (iK ⟨(cA ss.rows ss.ends (bB ss.rows ss.ends)).rows,(cA ss.rows ss.ends (bB ss.rows ss.ends)).ends,bR x⟩), .v (.int .i64 0)]=rv:=fun h=>by rw [<-hrv];exact (if_neg h).symm
   clear hrv;generalize hpart:bB ss.rows ss.ends=part at *;generalize hL:cA ss.rows ss.ends part=L at *;obtain ⟨all,rows,ends⟩:=ss;simp only at *;clear hst hw g1 ho;generalize bR x=labs at *
   have eT: ∀i,i<rows.length->(de (rows.map (fh labs))).getD i []=[.aB 1 ((fh labs (rows.getD i [])).map encI) labs.length]:=fun i hi=>by
    rw [pO _ (by rw [XQ];exact hi),List.getElem_map,dp,XR,Xb hi];rfl
   have eLT:(de (rows.map (fh labs))).length=rows.length:=by rw [dq,XQ]
   have eLE:(cB ends).length=rows.length:=by rw [eo,hE]
   have lP:(aJ part).length=rows.length:=by rw [pQ];exact g3
   have tV: ∀(r:aX) (k:Nat) (h:k<labs.length),((fh labs r).map encI).getD k []=[.v (.int .i64 (match look r labs[k] with|some t=>(t:Int)|none=> -1))]:=fun r k h=>by
    rw [JM (fh labs r) (by rw [dp];exact h)];simp only [fh,List.getElem_map];cases look r labs[k]<;>rfl
   have tL: ∀r:aX,((fh labs r).map encI).length=labs.length:=fun r=>by rw [XQ,dp]
   have eP0:=mI (l:=part) (i:=0) (by omega);have hp0:=hpl 0 g2;have eZ:=qj rows.length;generalize hnn:rows.length=n at *;simp only [aA,aS] at *
   (refine aq.lC Tryz.func10 rfl (by kernel_rfl) (by kernel_rfl) rfl hA hF ?_;simp only [Tryz.ntmps10,Tryz.results10,WY,WS,Nat.reduceAdd,Nat.reduceSub,List.replicate_succ,List.replicate_zero,Y1,YR])
   (refine fV ?_;intro K hK K hK K hK)
   refine aa.one CN ?_
   ((iterate 3 revert K);refine fV ?_;intro K hK K hK)
   refine aa.one CL ?_
   (revert K;revert K;refine fV ?_;intro K hK K hK)
   refine aE.one CS ?_
   (revert K;revert K;refine fV ?_;intro K hK K hK)
   refine aa.one CP ?_
   repeat (first|(with_reducible first|refine aw.up ?_|refine fun (K:AK) hK=> ?_|refine wD ?_|refine ae (by decide) ?_|refine ag (by decide) ?_|(refine hK _ ?_;clear hK K))|simp only [go_sem,eZ]|with_reducible refine wA ?_|clear hK K)
   refine aV (ι:=Nat) 19 (fun i=>[(11, .v (.int .i64 i))]) (fun i=>uW x labs (.v (.slice none 0 0)) (.v (.slice none 0 0)) [some ⟨3,1,true,aJ [0]⟩,some ⟨3,1,true,ld (List.replicate i (-1)) n⟩]) (fun i=>n - i) (fun i=>i<=n) 0 (WZ _) ?_ ?_
   ·simp only [uW,List.replicate_zero];refine fm ?_ ?_ ai
    all_goals first|rfl|exact ⟨rfl,rfl⟩|trace_state
   ·intro i hi K hK;simp only [uW];have eW:=ak (k:=i) (by omega)
    (revert K;revert K;refine fV ?_;intro K hK K hK K hK)
    refine bD.part (fun h=> ?_) (fun h=> ?_)
    ·have hlt:i<n:=by replace h:=bG h;omega
     have lA:(List.replicate i (-1:Int)).length=i:=List.length_replicate;have eL0:(ld (List.replicate i (-1:Int)) n).length=n:=jr (by omega);have gZ:=mY lA hlt;have sQ:=qi (-1) lA hlt;rw [<-List.replicate_succ'] at sQ
     repeat (first|(with_reducible first|refine aw.up ?_|refine fun (K:AK) hK=> ?_|refine wD ?_|refine ae (by decide) ?_|refine ag (by decide) ?_|(refine hK _ ?_;clear hK K))|simp only [go_sem,h,eL0,gZ,Zm,Zn,sQ]|with_reducible refine wA ?_|clear hK K)
     refine kT eW ?_;refine az.mk (i+1) (by omega) (by omega) ?_;simp only [uW];exact aR ai
    ·have hin:i=n:=by replace h:=bG h;omega
     rw [hin,Hb part];have gN:=uU (part:=part) (order:=[]) hp0;have sN:=Bj (part:=part) (order:=[]) (n:=n) (t:=0) rfl hp0;simp only [WS,YR,Int.natCast_zero] at sN;have lN:=uV part [] n
     repeat (first|(with_reducible first|refine aw.up ?_|refine fun (K:AK) hK=> ?_|refine wD ?_|refine ae (by decide) ?_|refine ag (by decide) ?_|(refine hK _ ?_;clear hK K))|simp only [go_sem,eP0,lP,gN,sN,Zm,Zn]|with_reducible refine wA ?_|clear hK K)
     refine aV (ι:=x7) 19 (fun st=>[(9, .vec 2 st.order.length),(12, .v (.int .i64 st.rows.length)),(13, .undef),(14, .undef)]) (fun st=>uW x labs (.v (.slice none 0 0)) (.v (.slice none 0 0)) [some ⟨3,1,true,aJ st.order⟩,some ⟨3,1,true,oZ part st.order n⟩]) (fun st=>n+1 - st.rows.length) (fun st=>FP rows part st∧mv rows ends part (n+1 - st.rows.length) st=L) q0 ⟨Fh rows part (by omega),hLd.symm⟩ ?_ ?_
     ·simp only [uW,q0];refine bl ?_ ai
      all_goals first|rfl|exact ⟨rfl,rfl⟩|trace_state
     ·rintro st ⟨hok,hrun⟩ K hK;simp only [uW];have hle:=hok.le;have hlt':=hok.lt;rw [hnn] at hlt';have hol:=kY part hok.nd hlt';have eN0:=pQ st.order
      (revert K;revert K;refine kT eN0 ?_;intro K hK K hK K hK)
      refine bD.part (fun h2=> ?_) (fun h2=> ?_)
      ·have hlt:st.rows.length<st.order.length:=by replace h2:=bG h2;omega
       have hcu:dC st<n:=hlt' _ (aW hlt);rw [show n+1 - st.rows.length=(n - st.rows.length)+1 by omega,mv,if_pos hlt] at hrun;have hrow:=hT _ (aW (d:=[]) (show dC st<rows.length by omega));have FO:=QK (part:=part) (row:=rows.getD (dC st) []) hok.nd hlt' hrow;have hfin:=N8 (row:=rows.getD (dC st) []) part st.order hnd (hsub _ (aW (d:=[]) (show dC st<rows.length by omega)))
       ((iterate 3 revert K);refine kT h2 ?_;intro K hK K hK K hK)
       refine aV (ι:=Nat) 19 (fun k=>[(9, .vec 2 (Eb part (rows.getD (dC st) []) (labs.take k) st.order).length),(13, .v (.int .i64 k)),(14, .undef)]) (fun k=>uW x labs (.v (.slice none 0 0)) (.v (.slice none 0 0)) [some ⟨3,1,true,aJ (Eb part (rows.getD (dC st) []) (labs.take k) st.order)⟩,some ⟨3,1,true,oZ part (Eb part (rows.getD (dC st) []) (labs.take k) st.order) n⟩]) (fun k=>labs.length - k) (fun k=>k<=labs.length) 0 (WZ _) ?_ ?_
       ·simp only [uW,List.take_zero,Eb,List.foldl_nil];refine bl ?_ ai
        all_goals first|rfl|exact ⟨rfl,rfl⟩|trace_state
       ·intro k hk K hK;simp only [uW];have eWk:=ak (k:=k) (by omega);obtain ⟨f1,f2,t0,f3⟩:=FO (labs.take k);have hol2:=kY part f1 f2
        ((iterate 4 revert K);refine fV ?_;iterate 5 intro K hK)
        refine bD.part (fun h3=> ?_) (fun h3=> ?_)
        ·have hlk:k<labs.length:=by replace h3:=bG h3;omega
         have hS:=BK part (rows.getD (dC st) []) (labs.take k) labs[k] st.order;rw [<-Y3 hlk] at hS;have eV:=tV (rows.getD (dC st) []) k hlk;have eTq:=eT _ hcu;have eLq:=tL (rows.getD (dC st) [])
         have hcq:(Eb part (rows.getD (dC st) []) (labs.take k) st.order).getD st.rows.length 0=dC st:=by rw [f3,b7 hlt];rfl
         generalize hoo:Eb part (rows.getD (dC st) []) (labs.take k) st.order=oo at *
         have hlo:st.rows.length<oo.length:=by rw [f3,WX];omega
         have eO:=mI hlo;rw [hcq] at eO;have lO:=pQ oo;have lNo:=uV part oo n
         cases hq:look (rows.getD (dC st) []) labs[k] with
         | none=>
          rw [hq] at eV hS;simp only at eV;rw [zl] at hS
          repeat (first|(with_reducible first|refine aw.up ?_|refine fun (K:AK) hK=> ?_|refine wD ?_|refine ae (by decide) ?_|refine ag (by decide) ?_|(refine hK _ ?_;clear hK K))|simp only [go_sem,h3,eO,lO,eTq,eLT,eLq,eV]|with_reducible refine wA ?_|clear hK K)
          refine P7 ?_;refine kT eWk ?_;refine az.mk (k+1) (by omega) (by omega) ?_;simp only [uW,hS];exact aR ai
          all_goals first|rfl|exact ⟨rfl,rfl⟩|trace_state
         | some t=>
          rw [hq] at eV hS;simp only at eV;have htn:t<n:=hrow _ (dH hq);have ePt:=mI (l:=part) (i:=t) (by omega);have hpt:=hpl t htn;have gNt:=uU (part:=part) (order:=oo) hpt;have d0:decide ((0:Int)<=(t:Int))=true:=decide_eq_true (by omega);rw [zl] at hS
          cases hp:iW part oo (part.getD t 0) with
          | some j=>
           rw [hp] at hS;simp only at hS;rw [KT,hp] at gNt;simp only at gNt;have d1:decide ((j:Int)<0)=false:=decide_eq_false (by omega)
           repeat (first|(with_reducible first|refine aw.up ?_|refine fun (K:AK) hK=> ?_|refine wD ?_|refine ae (by decide) ?_|refine ag (by decide) ?_|(refine hK _ ?_;clear hK K))|simp only [go_sem,h3,eO,lO,eTq,eLT,eLq,eV]|with_reducible refine wA ?_|clear hK K)
           repeat (first|(with_reducible first|refine aw.up ?_|refine fun (K:AK) hK=> ?_|refine wD ?_|refine ae (by decide) ?_|refine ag (by decide) ?_|(refine hK _ ?_;clear hK K))|simp only [go_sem,d0,d1,ePt,lP,gNt,lNo,Go.undef]|with_reducible refine wA ?_|clear hK K)
           refine kT eWk ?_;refine az.mk (k+1) (by omega) (by omega) ?_;simp only [uW,hS];exact aR ai
           all_goals first|rfl|exact ⟨rfl,rfl⟩|trace_state
          | none=>
           rw [hp] at hS;simp only at hS;have sNt:=Bj hp hpt;rw [KT,hp] at gNt;simp only at gNt
           repeat (first|(with_reducible first|refine aw.up ?_|refine fun (K:AK) hK=> ?_|refine wD ?_|refine ae (by decide) ?_|refine ag (by decide) ?_|(refine hK _ ?_;clear hK K))|simp only [go_sem,h3,eO,lO,eTq,eLT,eLq,eV]|with_reducible refine wA ?_|clear hK K)
           repeat (first|(with_reducible first|refine aw.up ?_|refine fun (K:AK) hK=> ?_|refine wD ?_|refine ae (by decide) ?_|refine ag (by decide) ?_|(refine hK _ ?_;clear hK K))|simp only [go_sem,d0,ePt,lP,gNt,lNo,sNt,Zm,Zn,Go.undef]|with_reducible refine wA ?_|clear hK K)
           refine kT eWk ?_;refine az.mk (k+1) (by omega) (by omega) ?_;simp only [uW,hS,Gr,WX,YV];exact aR ai
           all_goals first|rfl|exact ⟨rfl,rfl⟩|trace_state
        ·have hkl:k=labs.length:=by replace h3:=bG h3;omega
         have hfk:Eb part (rows.getD (dC st) []) (labs.take k) st.order=(eh rows ends part st).order:=by
          rw [hkl,ZA];exact hfin
         have hnr:(eh rows ends part st).rows.length=st.rows.length+1:=by rw [eh];simp only [WX,YV]
         have hnok:=qd rows ends part (by rw [hnn];exact hT) hok hlt;rw [hfk];generalize eh rows ends part st=st2 at *;have eW2:=ak (k:=st.rows.length) (by omega)
         ((iterate 5 revert K);refine fV ?_)
         refine kT eW2 ?_
         refine az.mk st2 ⟨hnok, ?_⟩ ?_ ?_
         ·rw [hnr,show n+1 - (st.rows.length+1)=n - st.rows.length by omega];exact hrun
         ·show n+1 - st2.rows.length<n+1 - st.rows.length;omega
         ·simp only [uW,hnr];exact aR ai
          all_goals first|rfl|exact ⟨rfl,rfl⟩|trace_state
      ·have hge: ¬st.rows.length<st.order.length:=by replace h2:=bG h2;omega
       rw [show n+1 - st.rows.length=(n - st.rows.length)+1 by omega,mv,if_neg hge] at hrun
       have hlo:st.order.length=L.rows.length:=by rw [ql,hrun]
       rw [hrun] at hok hol hlt' ⊢;have hlLn:L.order.length=L.rows.length:=ql.symm;rw [hlLn] at hol;clear hrun hlo hge h2 hle eN0;have eN0:=pQ L.order
       ((iterate 3 revert K);refine OY eN0 hlLn ?_;intro K hK)
       refine bD.part (fun h2=> ?_) (fun h2=> ?_)
       ·have h32:32<L.rows.length:=by replace h2:=bG h2;omega
        have hrv:=hv1 h32
        (revert K;refine fV ?_)
        rw [<-hrv];exact bI.cI ⟨bI.v _,bI.v _,trivial⟩
       ·have h32: ¬ 32<L.rows.length:=by replace h2:=bG h2;omega
        have hrv:=hv2 h32
        have hrow: ∀i (h:i<L.rows.length), ∀k (hk:k<labs.length), ∀(t:Option Nat),look (rows.getD (L.order.getD i 0) []) labs[k]=t->(fh labs (L.rows.getD i []))[k]? = some (match t with|some t=>KT part L.order (part.getD t 0)|none=> -1):=fun i hi k hk t ht=>by
         rw [H5 (labs:=labs) qo qw hi,Xe,fh,Xe,Xb hk,Option.map_some,Option.map_some,ht]
         cases t with
         | none=>rfl
         | some t=>
          simp only [show ¬((t:Int)<0) by omega,if_false,Int.toNat_natCast,KT];cases iW part L.order (part.getD t 0)<;>rfl
        repeat ((fail_if_success (with_reducible refine bm (i:=27) ?_));first|(with_reducible first|refine aw.up ?_|refine fun (K:AK) hK=> ?_|refine ae (by decide) ?_|refine ag (by decide) ?_|(refine hK _ ?_;clear hK K))|simp only [go_sem]|with_reducible refine wA ?_|clear hK K)
        refine a7 (c9 (k:=1) (i:=0) (j:=1) 79 1 (by decide) rfl (Zq _) rfl rfl) (by kernel_rfl) ?_;simp only [YA,Yz,WY,WS,Nat.reduceAdd,Y1,YR];refine a7 (c9 (k:=1) (i:=0) (j:=2) 4 1 (by decide) rfl (Zq _) rfl rfl) (by kernel_rfl) ?_;simp only [YA,Yz,WY,WS,Nat.reduceAdd,Y1,YR];have eZm:=qj labs.length
        (revert K;revert K;refine fV ?_;intro K hK)
        refine aV (ι:=Nat) 19 (fun i=>[(13, .undef),(14, .undef),(15, .v (.int .i64 i)),(16, .undef),(17, .undef),(18, .undef)]) (fun i=>uW x labs (.vec 4 i) (.vec 5 i) [some ⟨3,1,true,aJ L.order⟩,some ⟨3,1,true,oZ part L.order n⟩,some ⟨79,1,true,de ((L.rows.take i).map (fh labs))⟩,some ⟨4,1,true,cB (L.ends.take i)⟩]) (fun i=>L.rows.length - i) (fun i=>i<=L.rows.length) 0 (WZ _) ?_ ?_
        ·simp only [uW];refine fm ?_ ?_ ai
         all_goals first|rfl|exact ⟨rfl,rfl⟩|trace_state
        ·intro i hi K hK;simp only [uW];have eWi:=ak (k:=i) (by omega)
         (revert K;revert K;refine OY eN0 hlLn ?_;intro K hK K hK K hK)
         refine bD.part (fun h3=> ?_) (fun h3=> ?_)
         ·have hil:i<L.rows.length:=by replace h3:=bG h3;omega
          have hoi:L.order.getD i 0<n:=hlt' _ (aW (by omega));have eOi:=mI (l:=L.order) (i:=i) (by omega);have eTq:=eT _ hoi;have eLq:=tL (rows.getD (L.order.getD i 0) []);have hqT:=hT _ (aW (d:=[]) (show L.order.getD i 0<rows.length by omega));have hri:=hrow i hil;have lR:(fh labs (L.rows.getD i [])).length=labs.length:=dp _ _;generalize hRi:fh labs (L.rows.getD i [])=Ri at *
          repeat (first|(with_reducible first|refine aw.up ?_|refine fun (K:AK) hK=> ?_|refine wD ?_|refine ae (by decide) ?_|refine ag (by decide) ?_|(refine hK _ ?_;clear hK K))|simp only [go_sem,eZm]|with_reducible refine wA ?_|clear hK K)
          refine aV (ι:=Nat) 19 (fun k=>[(17, .v (.int .i64 k)),(18, .undef)]) (fun k=>uW x labs (.vec 4 i) (.vec 5 i) [some ⟨3,1,true,aJ L.order⟩,some ⟨3,1,true,oZ part L.order n⟩,some ⟨79,1,true,de ((L.rows.take i).map (fh labs))⟩,some ⟨4,1,true,cB (L.ends.take i)⟩,some ⟨3,1,true,ld (Ri.take k) labs.length⟩]) (fun k=>labs.length - k) (fun k=>k<=labs.length) 0 (WZ _) ?_ ?_
          ·simp only [uW,List.take_zero];refine bl ?_ ai
           all_goals first|rfl|exact ⟨rfl,rfl⟩|trace_state
          ·intro k hk K hK;simp only [uW];have eWk:=ak (k:=k) (by omega)
           have lRk:(Ri.take k).length=k:=by rw [Xm];omega
           have eLr:(ld (Ri.take k) labs.length).length=labs.length:=jr (by omega)
           ((iterate 5 revert K);refine kT eLr ?_;iterate 6 intro K hK)
           refine bD.part (fun h4=> ?_) (fun h4=> ?_)
           ·have hlk:k<labs.length:=by replace h4:=bG h4;omega
            have g0:=mY (n:=labs.length) lRk hlk;have s0:=qi (n:=labs.length) (-1) lRk hlk;have eL1:(ld (Ri.take k++[-1]) labs.length).length=labs.length:=jr (by rw [WX,YV];omega);have g1:=zm (n:=labs.length) (-1) lRk;have s1:=fun v=>vg (n:=labs.length) (-1) v lRk;have eV:=tV (rows.getD (L.order.getD i 0) []) k hlk;have hS:Ri.take (k+1)=Ri.take k++Ri[k]?.toList:=List.take_add_one
            cases hq:look (rows.getD (L.order.getD i 0) []) labs[k] with
            | none=>
             rw [hq] at eV;simp only at eV;rw [hri k hlk _ hq] at hS;simp only [ZI] at hS
             repeat (first|(with_reducible first|refine aw.up ?_|refine fun (K:AK) hK=> ?_|refine wD ?_|refine ae (by decide) ?_|refine ag (by decide) ?_|(refine hK _ ?_;clear hK K))|simp only [go_sem,h4,eLr,g0,s0,eL1,Zm,Zn]|with_reducible refine wA ?_|clear hK K)
             repeat (first|(with_reducible first|refine aw.up ?_|refine fun (K:AK) hK=> ?_|refine wD ?_|refine ae (by decide) ?_|refine ag (by decide) ?_|(refine hK _ ?_;clear hK K))|simp only [go_sem,eOi,eN0,hlLn,h3,eTq,eLT,eLq,eV,h4]|with_reducible refine wA ?_|clear hK K)
             refine kT eWk ?_;refine az.mk (k+1) (by omega) (by omega) ?_;simp only [uW,hS];exact aR ai
             all_goals first|rfl|exact ⟨rfl,rfl⟩|trace_state
            | some t=>
             rw [hq] at eV;simp only at eV;rw [hri k hlk _ hq] at hS;simp only [ZI] at hS
             have htn:t<n:=by have:=hqT _ (dH hq);omega
             have ePt:=mI (l:=part) (i:=t) (by omega);have hpt:=hpl t htn;have gNt:=uU (part:=part) (order:=L.order) hpt;have lNo:=uV part L.order n;have d0:decide ((0:Int)<=(t:Int))=true:=decide_eq_true (by omega)
             repeat (first|(with_reducible first|refine aw.up ?_|refine fun (K:AK) hK=> ?_|refine wD ?_|refine ae (by decide) ?_|refine ag (by decide) ?_|(refine hK _ ?_;clear hK K))|simp only [go_sem,h4,eLr,g0,s0,eL1,Zm,Zn]|with_reducible refine wA ?_|clear hK K)
             repeat (first|(with_reducible first|refine aw.up ?_|refine fun (K:AK) hK=> ?_|refine wD ?_|refine ae (by decide) ?_|refine ag (by decide) ?_|(refine hK _ ?_;clear hK K))|simp only [go_sem,eOi,eN0,hlLn,h3,eTq,eLT,eLq,eV,h4]|with_reducible refine wA ?_|clear hK K)
             repeat (first|(with_reducible first|refine aw.up ?_|refine fun (K:AK) hK=> ?_|refine wD ?_|refine ae (by decide) ?_|refine ag (by decide) ?_|(refine hK _ ?_;clear hK K))|simp only [go_sem,d0,ePt,lP,gNt,lNo,eL1,g1,s1,Zm,Zn]|with_reducible refine wA ?_|clear hK K)
             refine kT eWk ?_;refine az.mk (k+1) (by omega) (by omega) ?_;simp only [uW,hS];exact aR ai
             all_goals first|rfl|exact ⟨rfl,rfl⟩|trace_state
           ·have hkl:k=labs.length:=by replace h4:=bG h4;omega
            have eTk:Ri.take k=Ri:=by rw [hkl, <- lR,ZA]
            rw [eTk,s7 lR]
            have lRm:(Ri.map encI).length=labs.length:=by rw [XQ,lR]
            repeat ((fail_if_success (with_reducible refine bm (i:=38) ?_));first|(with_reducible first|refine aw.up ?_|refine fun (K:AK) hK=> ?_|refine ae (by decide) ?_|refine ag (by decide) ?_|(refine hK _ ?_;clear hK K))|simp only [go_sem]|with_reducible refine wA ?_|clear hK K)
            refine a7 (fZ 16 6 rfl rfl rfl lRm) (by kernel_rfl) ?_;simp only [YA,Yz];have eEi:=wU ends (i:=L.order.getD i 0) (by omega)
            have eLi:de ((L.rows.take i).map (fh labs))++[[AV.aB 1 (Ri.map encI) labs.length]]=de ((L.rows.take (i+1)).map (fh labs)):=by
             rw [Y3 hil,YT,de,de,YT, <- lR, <- hRi,XR,Xb hil];rfl
            have hLe:L.ends.length=L.rows.length:=qo.ends
            have eEn:cB (L.ends.take i)++[[AV.v (.bool (ends.getD (L.order.getD i 0) false))]]=cB (L.ends.take (i+1)):=by
             rw [<-qw.Dk i hil,Y3 (show i<L.ends.length by omega),cB,cB,YT,XR,Xb (show i<L.ends.length by omega)];rfl
            have lLi:(de ((L.rows.take i).map (fh labs))).length=i:=by rw [dq,XQ,Xm];omega
            have lEi:(cB (L.ends.take i)).length=i:=by rw [eo,Xm];omega
            repeat ((fail_if_success (with_reducible refine bm (i:=39) ?_));first|(with_reducible first|refine aw.up ?_|refine fun (K:AK) hK=> ?_|refine ae (by decide) ?_|refine ag (by decide) ?_|(refine hK _ ?_;clear hK K))|simp only [go_sem,eLi,lLi]|with_reducible refine wA ?_|clear hK K)
            refine bA [13,16] [] (by decide+kernel) (by kernel_rfl) ?_
            repeat (first|(with_reducible first|refine aw.up ?_|refine fun (K:AK) hK=> ?_|refine ae (by decide) ?_|refine ag (by decide) ?_|(refine hK _ ?_;clear hK K))|simp only [go_sem,eOi,eN0,hlLn,h3,eEi,eLE,eEn,lEi]|with_reducible refine wA ?_|clear hK K)
            refine kT eWi ?_;refine az.mk (i+1) (by omega) (by omega) ?_;simp only [uW];exact aR ai
            all_goals first|rfl|exact ⟨rfl,rfl⟩|trace_state
         ·have hin:i=L.rows.length:=by replace h3:=bG h3;omega
          have hLe:L.ends.length=L.rows.length:=qo.ends
          have e1:L.rows.take i=L.rows:=by rw [hin,ZA]
          have e2:L.ends.take i=L.ends:=by rw [hin, <- hLe,ZA]
          rw [e1,e2,hin]
          have l1:(de (L.rows.map (fh labs))).length=L.rows.length:=by rw [dq,XQ]
          have l2:(cB L.ends).length=L.rows.length:=by rw [eo,hLe]
          repeat ((fail_if_success (with_reducible refine bm (i:=40) ?_));first|(with_reducible first|refine aw.up ?_|refine fun (K:AK) hK=> ?_|refine ae (by decide) ?_|refine ag (by decide) ?_|(refine hK _ ?_;clear hK K))|simp only [go_sem]|with_reducible refine wA ?_|clear hK K)
          refine a7 (dK (k:=1) (i:=0) (j:=1) (by decide) rfl (Zq _) rfl rfl rfl rfl l1) (by kernel_rfl) ?_;simp only [YA,Yz];refine a7 (dK (k:=1) (i:=0) (j:=2) (by decide) rfl (Zq _) rfl rfl rfl rfl l2) (by kernel_rfl) ?_;simp only [YA,Yz]
          (revert K;refine fV ?_)
          rw [<-hrv];simp only [iK,aS];refine bI.cI ⟨bI.ptr (ob:=⟨76,3,false,[[.aB 1 (labs.map encS) labs.length, .aB 1 (de (L.rows.map (fh labs))) L.rows.length, .aB 1 (cB L.ends) L.rows.length]]⟩) rfl rfl rfl (Nat.succ_ne_zero 2) ?_,bI.v _,trivial⟩;exact ⟨bI.wk (aO 0 _),bI.wk (kp 0 _),bI.wk (nj 0 _),trivial⟩
theorem Oa {A:oe} (LO:FN A) (w:List ByteArray) (hw:w.length<=1000000):aq Tryz.prog 13 [.vp (iK A),aS w] (.v (.bool (bO A.rows A.ends 0 w))):=by
 have CS:=fun (s:Int) l=>s6 LO s l;have CT:=fun (s:Int)=>BL LO.ends s;have hpos:=LO.pos;simp only [iK,aS] at *;generalize hrv:bO A.rows A.ends 0 w=rv;refine gE Tryz.func13 Tryz.ntmps13 Tryz.results13 ?_
 (refine au ?_;intro K hK)
 refine bf (ι:=Nat×Nat) 9 (fun x=>[(5, .v (.int .i64 x.2)),(6, .v (.int .i64 x.1)),(7, .undef),(8, .undef)]) (fun x=>w.length - x.1) (fun x=>x.1<=w.length∧x.2<A.rows.length∧bO A.rows A.ends x.2 (w.drop x.1)=rv) (0,0) ⟨Nat.zero_le _,hpos,by rw [List.drop_zero];exact hrv⟩ ?_ ?_
 ·refine bl ?_ ai
  all_goals rfl
 ·rintro ⟨k,s⟩ ⟨hk,hs,hg⟩ K hK;simp only at hk hs hg
  (revert K;revert K;refine au ?_;intro K hK K hK K hK)
  refine bD.part (fun h=> ?_) (fun h=> ?_)
  ·have hlt:k<w.length:=by replace h:=bG h;omega
   have eW:=ak (k:=k) (by omega);have eG:=getD_map encS w k [] hlt;rw [List.drop_eq_getElem_cons hlt,r7] at hg;have CK:=CS (s:Int) w[k]
   have e3:ck A s w[k]=look (A.rows.getD s []) w[k]:=by
    rw [ck,if_pos ⟨by omega,by omega⟩,ZJ]
   rw [e3] at CK;simp only [encS] at eG
   cases hl:look (A.rows.getD s []) w[k] with
   | none=>
    rw [hl] at CK hg;simp only [stepT,Zv,Zw] at CK hg
    repeat (first|(with_reducible first|refine aw.up ?_|refine fun (K:AK) hK=> ?_|(refine hK _ ?_;clear hK K))|simp only [go_sem,eG,h]|with_reducible refine wA ?_|clear hK K)
    refine aa.one CK ?_
    ((iterate 5 revert K);refine au ?_)
    rw [hg]
   | some t=>
    rw [hl] at CK hg;simp only [stepT,YX,Zx] at CK hg;have ht:t<A.rows.length:=(LO.row _ (aW hs)).2 _ (dH hl)
    repeat (first|(with_reducible first|refine aw.up ?_|refine fun (K:AK) hK=> ?_|(refine hK _ ?_;clear hK K))|simp only [go_sem,eG,h]|with_reducible refine wA ?_|clear hK K)
    refine aa.one CK ?_
    ((iterate 5 revert K);refine aP eW ?_)
    refine az.mk (k+1,t) ⟨hlt,ht,hg⟩ (by show w.length - (k+1)<w.length - k;omega) ?_;exact aR ai
  ·have hkw:k=w.length:=by replace h:=bG h;omega
   have hg2:du A s=rv:=by
    rw [<-hg,hkw,List.drop_length,du,decide_eq_true (by omega),decide_eq_true (by omega)];rfl
   ((iterate 3 revert K);refine au ?_;intro K hK K hK)
   refine aa.one (CT s) ?_
   (revert K;revert K;refine au ?_)
   rw [hg2]
theorem Ht {r s:aX} (h1:(r.map Prod.fst).Nodup) (h2:(s.map Prod.fst).Nodup):mX r s=true ↔ ∀l,look r l=look s l:=by
 rw [mX,Bool.and_eq_true,decide_eq_true_eq,X7]
 constructor
 ·rintro ⟨hl,h⟩ l
  have hs: ∀p∈r,look s p.1=some p.2:=fun p hp=>by simpa using h p hp
  cases q:look r l with
  | some t=>exact (hs _ (dH q)).symm
  | none=>
   cases q2:look s l with
   | none=>rfl
   | some t=>
    exfalso;have hn:=c8.1 q
    have hsub: ∀m∈l :: r.map Prod.fst,m∈s.map Prod.fst:=fun m hm=>by
     rcases List.mem_cons.1 hm with rfl|hm
     ·exact List.mem_map_of_mem (f:=Prod.fst) (dH q2)
     ·obtain ⟨p,hp,rfl⟩:=List.mem_map.1 hm;exact List.mem_map_of_mem (f:=Prod.fst) (dH (hs p hp))
    have:=(List.nodup_cons.2 ⟨hn,h1⟩).length_le_of_subset hsub
    simp only [List.length_cons,XQ] at this;omega
 ·intro h
  have sub: ∀ {a b:aX},(∀l,look a l=look b l)-> ∀m∈a.map Prod.fst,m∈b.map Prod.fst:=fun {a b} h m hm=>by
   refine Classical.byContradiction fun hn=> ?_
   have:=c8.2 hn
   rw [<-h] at this;exact c8.1 this hm
  have l1:=h1.length_le_of_subset (sub h);have l2:=h2.length_le_of_subset (sub fun l=>(h l).symm);simp only [XQ] at l1 l2;refine ⟨by omega,fun p hp=> ?_⟩;rw [<-h,pW h1 (show (p.1,p.2)∈r from hp)];simp
theorem Ea {A B:oe} (ha:FN A) (hb:FN B) {s:Nat} (h1:s<A.rows.length) (h2:s<B.rows.length):mX (A.rows.getD s []) (B.rows.getD s [])=true ↔ ∀l∈A.labs++B.labs,ck A s l=ck B s l:=by
 have ra:=(ha.row _ (aW (d:=[]) h1)).1;have rb:=(hb.row _ (aW (d:=[]) h2)).1;rw [Ht (ra.nodup ha.nd) (rb.nodup hb.nd)]
 have e1: ∀l,ck A s l=look (A.rows.getD s []) l:=fun l=>by rw [ck,if_pos ⟨by omega,by omega⟩,ZJ]
 have e2: ∀l,ck B s l=look (B.rows.getD s []) l:=fun l=>by rw [ck,if_pos ⟨by omega,by omega⟩,ZJ]
 simp only [e1,e2];refine ⟨fun h l _=>h l,fun h l=> ?_⟩
 by_cases hl:l∈A.labs++B.labs
 ·exact h l hl
 ·rw [List.mem_append,not_or] at hl;rw [c8.2 (fun q=>hl.1 (ra.subset q)),c8.2 (fun q=>hl.2 (rb.subset q))]
theorem N9 {A B:oe} (ha:FN A) (hb:FN B):aq Tryz.prog 15 [.vp (iK A), .vp (iK B)] (.v (.bool (nc A B))):=by
 have SA:=fun (s:Int) l=>s6 ha s l;have SB:=fun (s:Int) l=>s6 hb s l;have ea:=ha.ends;have eb:=hb.ends;have am:=ha.max;have fa:=ha.PZ;have fb:=hb.PZ;have hR:=fun s h1 h2=>Ea ha hb (s:=s) h1 h2;generalize hrv:nc A B=rv
 have eLA:(de (A.rows.map (fh A.labs))).length=A.rows.length:=by rw [dq,XQ]
 have eLB:(de (B.rows.map (fh B.labs))).length=B.rows.length:=by rw [dq,XQ]
 have lEA:(cB A.ends).length=A.rows.length:=by rw [eo,ea]
 have lEB:(cB B.ends).length=B.rows.length:=by rw [eo,eb]
 have eAll:A.labs.map encS++B.labs.map encS=(A.labs++B.labs).map encS:=by rw [List.map_append]
 have lAll:A.labs.length+B.labs.length=(A.labs++B.labs).length:=by rw [List.length_append]
 have tA:(A.labs.map encS).take A.labs.length=A.labs.map encS:=Y7 (by simp);have tB:(B.labs.map encS).take B.labs.length=B.labs.map encS:=Y7 (by simp);simp only [iK,aS] at SA SB ⊢;refine gE Tryz.func15 Tryz.ntmps15 Tryz.results15 ?_
 (refine ma ?_;intro K hK)
 refine bD.part (fun h=> ?_) (fun h=> ?_)
 ·have hne:A.rows.length≠B.rows.length:=by replace h:=Rf h;omega
  have hf:rv=false:=by rw [<-hrv,nc,decide_eq_false hne];rfl
  (revert K;refine ma ?_)
  rw [hf]
 ·have heq:A.rows.length=B.rows.length:=by replace h:=Rf h;omega
  have hf:(List.range A.rows.length).all (sameAt A B)=rv:=by rw [<-hrv,nc,decide_eq_true heq];rfl
  (revert K;refine ma ?_;intro K hK)
  refine bf (ι:=Nat) 12 (fun s=>[(5, .v (.int .i64 s)),(6, .undef),(7, .undef),(8, .undef),(9, .undef),(10, .undef),(11, .undef)]) (fun s=>A.rows.length - s) (fun s=>s<=A.rows.length∧ ∀t,t<s->sameAt A B t=true) 0 ⟨Nat.zero_le _,fun t h=>absurd h (Nat.not_lt_zero t)⟩ ?_ ?_
  ·refine bl ?_ ai
   all_goals rfl
  ·rintro s ⟨hs,hd⟩ K hK
   (revert K;revert K;refine ma ?_;intro K hK K hK K hK)
   refine bD.part (fun h2=> ?_) (fun h2=> ?_)
   ·have hlt:s<A.rows.length:=by replace h2:=Rf h2;omega
    have eW:=ak (k:=s) (by omega);have g1:=tS A.ends (i:=s) (by omega);have g2:=tS B.ends (i:=s) (by omega);have hrow:=hR s hlt (by omega);have hsm:sameAt A B s=((A.ends.getD s false==B.ends.getD s false)&&mX (A.rows.getD s []) (B.rows.getD s [])):=rfl;generalize A.ends.getD s false=e1 at *;generalize B.ends.getD s false=e2 at *
    have hin:sameAt A B s=false->rv=false:=fun hx=>by
     rw [<-hf, <- Bool.not_eq_true,X7];intro hall
     have:=hall s (List.mem_range.2 hlt)
     rw [hx] at this;cases this
    have d1:decide ((s:Int)<(A.rows.length:Int))=true:=decide_eq_true (by omega);have d2:decide ((s:Int)<(B.rows.length:Int))=true:=decide_eq_true (by omega)
    repeat (first|(with_reducible first|refine aw.up ?_|refine fun (K:AK) hK=> ?_|refine wD ?_|refine ae (by decide) ?_|refine ag (by decide) ?_|(refine hK _ ?_;clear hK K))|simp only [go_sem,g1,g2,d1,d2,lEA,lEB,h2]|with_reducible refine wA ?_|(refine cv rfl ?_)|clear hK K)
    refine bD.part (fun h3=> ?_) (fun h3=> ?_)
    ·have:(e1==e2)=true:=h3
     rw [this,Bool.true_and] at hsm;rw [<-hsm] at hrow
     repeat ((fail_if_success (with_reducible refine bm (i:=8) ?_));first|(with_reducible first|refine aw.up ?_|refine fun (K:AK) hK=> ?_|refine ae (by decide) ?_|refine ag (by decide) ?_|(refine hK _ ?_;clear hK K))|simp only [go_sem]|with_reducible refine wA ?_|(refine cv rfl ?_)|clear hK K)
     refine bA [0,5,10] [(4,0),(9,0)] (by decide+kernel) (by kernel_rfl) ?_
     repeat ((fail_if_success (with_reducible refine bm (i:=9) ?_));first|(with_reducible first|refine aw.up ?_|refine fun (K:AK) hK=> ?_|refine ae (by decide) ?_|refine ag (by decide) ?_|(refine hK _ ?_;clear hK K))|simp only [go_sem,tA,tB]|with_reducible refine wA ?_|(refine cv rfl ?_)|clear hK K)
     simp only [eAll,lAll];refine a7 (fZ 6 0 rfl rfl rfl (XQ _)) (by kernel_rfl) ?_;simp only [List.set_cons_zero,List.set_cons_succ];generalize hall:A.labs++B.labs=all at *
     have lal:all.length<=100:=by rw [<-hall,List.length_append];omega
     ((iterate 4 revert K);refine ma ?_;intro K hK K hK K hK)
     refine bf (ι:=Nat) 12 (fun k=>[(7, .v (.int .i64 k)),(8, .undef),(9, .undef),(10, .undef),(11, .undef)]) (fun k=>all.length - k) (fun k=>k<=all.length∧ ∀(j:Nat) (h:j<all.length),j<k->ck A s all[j]=ck B s all[j]) 0 ⟨Nat.zero_le _,fun j _ h=>absurd h (Nat.not_lt_zero _)⟩ ?_ ?_
     ·refine bl ?_ ai
      all_goals rfl
     ·rintro k ⟨hk,hd2⟩ K hK;have eWk:=ak (k:=k) (by omega)
      ((iterate 4 revert K);refine ma ?_;iterate 5 intro K hK)
      refine bD.part (fun h4=> ?_) (fun h4=> ?_)
      ·have hkl:k<all.length:=by replace h4:=Rf h4;omega
       have eG:=getD_map encS all k [] hkl;simp only [encS] at eG;have CA:=SA s all[k];have CB:=SB s all[k]
       have bad:ck A s all[k]≠ck B s all[k]->rv=false:=fun hne=>hin (by
        cases q:sameAt A B s
        ·rfl
        ·exact absurd (hrow.1 q _ (List.getElem_mem hkl)) hne)
       have good:ck A s all[k]=ck B s all[k]-> ∀(j:Nat) (h:j<all.length),j<k+1->ck A s all[j]=ck B s all[j]:=fun he j hj hjk=>by
        rcases ZK.1 hjk with q|rfl
        ·exact hd2 j hj q
        ·exact he
       repeat (first|(with_reducible first|refine aw.up ?_|refine fun (K:AK) hK=> ?_|refine wD ?_|refine ae (by decide) ?_|refine ag (by decide) ?_|(refine hK _ ?_;clear hK K))|simp only [go_sem,h4,eG]|with_reducible refine wA ?_|(refine cv rfl ?_)|clear hK K)
       refine aa.one CA ?_
       cases q1:ck A s all[k] with
       | none=>
        simp only [stepT,Zv,Zw]
        repeat (first|(with_reducible first|refine aw.up ?_|refine fun (K:AK) hK=> ?_|refine wD ?_|refine ae (by decide) ?_|refine ag (by decide) ?_|(refine hK _ ?_;clear hK K))|simp only [go_sem,h4,eG]|with_reducible refine wA ?_|(refine cv rfl ?_)|clear hK K)
        refine aa.one CB ?_
        cases q2:ck B s all[k] with
        | none=>
         simp only [stepT,Zv,Zw]
         ((iterate 7 revert K);refine Du ?_)
         refine xa eWk ?_;exact az.mk (k+1) ⟨hkl,good (by rw [q1,q2])⟩ (by omega) (by exact aR ai)
        | some b=>
         simp only [stepT,YX,Zx]
         have:=bad (by rw [q1,q2];simp)
         ((iterate 7 revert K);refine Du ?_)
         rw [this]
       | some a=>
        simp only [stepT,YX,Zx]
        repeat (first|(with_reducible first|refine aw.up ?_|refine fun (K:AK) hK=> ?_|refine wD ?_|refine ae (by decide) ?_|refine ag (by decide) ?_|(refine hK _ ?_;clear hK K))|simp only [go_sem,h4,eG]|with_reducible refine wA ?_|(refine cv rfl ?_)|clear hK K)
        refine aa.one CB ?_
        cases q2:ck B s all[k] with
        | none=>
         simp only [stepT,Zv,Zw]
         have:=bad (by rw [q1,q2];simp)
         ((iterate 7 revert K);refine Du ?_)
         rw [this]
        | some b=>
         simp only [stepT,YX,Zx]
         by_cases hab:a=b
         ·have f1:((a:Int) !=(b:Int))=false:=by rw [hab];simp
          ((iterate 7 revert K);refine JC f1 ?_)
          refine xa eWk ?_;exact az.mk (k+1) ⟨hkl,good (by rw [q1,q2,hab])⟩ (by omega) (by exact aR ai)
         ·have f1:((a:Int) !=(b:Int))=true:=by rw [bne_iff_ne];omega
          have:=bad (by rw [q1,q2];simpa using hab)
          ((iterate 7 revert K);refine JC f1 ?_)
          rw [this]
      ·have hkn:k=all.length:=by replace h4:=Rf h4;omega
       have hsm2:sameAt A B s=true:=hrow.2 fun l hl=>by
        obtain ⟨j,hj,rfl⟩:=List.getElem_of_mem hl;exact hd2 j hj (by omega)
       ((iterate 5 revert K);refine ma ?_)
       refine xa eW ?_;refine az.mk (s+1) ⟨hlt,fun t ht=> ?_⟩ (by omega) (by exact aR ai)
       rcases ZK.1 ht with q|rfl
       ·exact hd t q
       ·exact hsm2
    ·have:(e1==e2)=false:=h3
     rw [this,Bool.false_and] at hsm
     ((iterate 4 revert K);refine ma ?_)
     rw [hin hsm]
   ·have hs':s=A.rows.length:=by replace h2:=Rf h2;omega
    have hf2:rv=true:=by
     rw [<-hf,X7];intro t ht;exact hd t (by rw [List.mem_range] at ht;omega)
    ((iterate 3 revert K);refine ma ?_)
    rw [hf2]
structure fy (b:Nat) (w w':World):Prop where
 os:w'.os=w.os
 tape:w'.tape=w.tape
 output:w'.output=w.output
 size:w.heap.size<=w'.heap.size
 same: ∀k,k<w.heap.size->k≠b->w'.heap[k]? = w.heap[k]?
theorem fy.refl (b:Nat) (w:World):fy b w w:=⟨rfl,rfl,rfl,Nat.le_refl _,fun _ _ _=>rfl⟩
theorem vo {w:World} {b k:Nat} {v:Value} {cur:Array Value} {T:TypeId} (h:w.heap[b]? = some (.cells cur T (0,0))):(w.setCell ⟨b,k,none⟩ v).heap[b]? = some (.cells (cur.setIfInBounds k v) T (0,0)):=by
 simp [World.setCell,XS,h]
theorem fy.set {w0 w:World} {b k:Nat} {v:Value} (h:fy b w0 w):fy b w0 (w.setCell ⟨b,k,none⟩ v):=
 ⟨h.os,h.tape,h.output,by simpa [World.setCell] using h.size,fun j h1 h2=>by
  have:(w.setCell ⟨b,k,none⟩ v).heap[j]? = w.heap[j]? :=by
   simp only [World.setCell,XS];rw [if_neg (fun e=>h2 e.symm)]
  exact this.trans (h.same j h1 h2)⟩
theorem yr {D:Nat->Prop} {nu:Nat->Nat->Value} {o:List (Option ab)} {w w':World} {id b:Nat} {ob:ab} (h:RO D nu o w) (ho:o[id]? = some (some ob)) (hb:cX (nu id ob.hl)=some b) (hB:fy b w w') :
  bK nu o w nu (o.set id none) w'∧RO D nu (o.set id none) w':=by
 have hk:=c7 (nu:=nu) (o:=o) (w:=w) id;have hm:bK nu o w nu (o.set id none) w':=⟨hB.os,hB.tape,hB.output,hB.size,hk.sI,fun k hlt hno=>⟨hB.same k hlt (fun e=>hno ⟨id,ob,ho,by rw [e];exact hb⟩),(hk.keep k hlt hno).2⟩⟩;refine ⟨hm, ?_,fun k hle=>h.up k (Nat.le_trans hB.size hle),fun i1 i2 b1 b2 b' k1 k2=>h.sep i1 i2 b1 b2 b' (jJ k1).1 (jJ k2).1,h.gl.mono hm (fun _ _ h=>h)⟩;intro id' ob' k1;obtain ⟨k2,k3⟩:=jJ k1;have hne: ∀g,cX (nu id' ob'.hl)=some g->g<w.heap.size->w'.heap[g]? = w.heap[g]? :=fun g hg hlt=>hB.same g hlt (fun e=>h.sep id id' ob ob' b ho k2 k3 hb (by rw [<-e];exact hg))
 rcases h.obj id' ob' k2 with e|⟨g,cur,hr⟩|⟨g,es,cl,hmp⟩
 ·exact .inl e
 ·exact .inr (.inl ⟨g,cur,(hne g hr.bF (WR.1 hr.fl).1).trans hr.fl,hr.nY,hr.box,hr.vec,hr.z,hr.row,fun i j row c x q1 q2 q3=>(hr.cell i j row c x q1 q2 q3).mono hm (fun _ _ h=>h),hr.one⟩)
 ·exact .inr (.inr ⟨g,es,cl,hmp.tr (hne g hmp.bF (WR.1 hmp.fl).1) (fun h=>h) rfl (fun i j row c x _ _ hr=>hr.mono hm (fun _ _ h=>h))⟩)
theorem fy.below {b:Nat} {w w1 w2:World} (h:fy b w w1) (hb:Below w1.heap.size w1 w2):fy b w w2:=
 ⟨hb.os.trans h.os,hb.tape.trans h.tape,hb.output.trans h.output,Nat.le_trans h.size hb.size,fun k hk hne=>(hb.block k (Nat.lt_of_lt_of_le hk h.size)).trans (h.same k hk hne)⟩
theorem Di {P:Program} {src dst e:TypeId} (hs:P.underlying src=some (.slice e)) (he:P.underlying e=some (.int .u8)) (hd:P.underlying dst=some .string) (W:World) (b n:Nat) (ns:List Int) (T:TypeId) (hn:ns.length=n) (h:W.heap[b]? = some (.cells (ns.map (Value.int .u8)).toArray T (0,0))): ∃s,(convert src dst (.slice (some ⟨b,0,none⟩) n n)).run P W = .ok (.string s) W:=by
 subst hn
 have hl:=run_loadCells_list (P:=P) W ⟨b,0,none⟩ (ns.map (Value.int .u8)) (fun j v hj=>by
  have e:(⟨b,0,none⟩:Addr).add j=⟨b,j,none⟩:=by cases j<;>simp [Addr.add]
  rw [e]
  simpa [World.cell?,h] using hj)
 simp only [XQ] at hl;rw [run_convert_bytes_string W src dst e _ _ _ hs he hd,run_bytesToString W _ ns.length ns.length ns hl];exact ⟨_,rfl⟩
theorem DN (i:Nat) (hi:i<=2000000) (w:World):Calls Tryz.prog 40 #[.int .i64 2, .int .i64 i] w (fun e w'=>(∃s,e = .returned (.string s))∧Below w.heap.size w w'):=by
 have HB:=Lib.hid (fun ob=>((Below.refl w.heap.size w).alloc (Nat.le_refl _) ob));have HK:=Lib.hid (fun (a b c:Int)=>Di (P:=Tryz.prog) (src:=122) (dst:=9) (e:=5) (by kernel_rfl) (by kernel_rfl) (by kernel_rfl) (w.alloc (.cells #[.int .u8 35, .int .u8 2, .int .u8 0, .int .u8 0, .int .u8 47, .int .u8 a, .int .u8 b, .int .u8 c] 5)) w.heap.size 8 [35,2,0,0,47,a,b,c] 5 rfl (Array.getElem?_push_size))
 go_enter Tryz.func40,Tryz.ntmps40
 go_wp2_with fail
 obtain ⟨s,es⟩:=HK.out ((i:Int) % 256) ((i:Int) / 256 % 256) ((i:Int) / 65536);rw [es]
 go_wp2_with fail
 go_ret
 exact ⟨⟨_,rfl⟩,HB.out _⟩
theorem Bs (w:World) {b n cap:Nat} {cur:Array Value} {T:TypeId} (hblk:w.heap[b]? = some (.cells cur T (0,0))) (hn:n<=cap) (hc:cap<=maxLen) (hs:cur.size=cap) (hn6:n<=1000000) :
  Calls Tryz.prog 20 #[.slice (some ⟨b,0,none⟩) n cap] w (fun e w'=>e = .returned (.tuple #[])∧fy b w w'):=by
 unfold maxLen at hc
 go_enter Tryz.func20,Tryz.ntmps20
 have HM:=Lib.hid (fun (k:Nat) (hk:k<=2000000) (W:World)=>DN k hk W)
 by_cases hle:cap<=n+12
 ·go_wp2_with fail
  go_loopw [3] (fun i wr=> ∃(k:Nat) (cur':Array Value),k<=cap∧i = .int .i64 k∧wr.heap[b]? = some (.cells cur' T (0,0))∧cur'.size=cap∧fy b w wr) (fun i _=>cap - (intOf i).toNat)
  case atStart=>exact ⟨0,cur,WZ _,rfl,hblk,hs, .refl _ _⟩
  case round=>
   obtain ⟨k,cur',hk,rfl,hb',hs',hB⟩:=hrel;have HB:=Lib.hid hB;clear hB
   by_cases hlt:k<cap
   ·have hcell:wr.cell? ⟨b,k,none⟩=some (cur'[k]'(by omega)):=by simp [World.cell?,hb',Xa (show k<cur'.size by omega)]
    have hfro:wr.frozen? ⟨b,k,none⟩=false:=by simp [World.frozen?,hb']
    have hbl:=(WR.1 hb').1;clear hcell hfro
    go_wp2_with fail
    refine (HM.out k (by omega) wr).mono ?_;rintro e w' ⟨⟨s,rfl⟩,hbw⟩;have hb2:w'.heap[b]? = some (.cells cur' T (0,0)):=(hbw.block b hbl).trans hb'
    have hcell:w'.cell? ⟨b,k,none⟩=some (cur'[k]'(by omega)):=by simp [World.cell?,hb2,Xa (show k<cur'.size by omega)]
    have hfro:w'.frozen? ⟨b,k,none⟩=false:=by simp [World.frozen?,hb2]
    have HB2:=Lib.hid (HB.out.below hbw);clear hbw
    go_wp2_with fail
    go_roundw
    case rel=>exact ⟨k+1,_,by omega,by go_num,vo hb2,by simpa using hs',HB2.out.set⟩
    case measure=>simp [intOf];omega
   ·go_wp2_with fail
    exact bodyPost_end (results_none rfl _ _ _) rfl ⟨rfl,HB.out⟩
 ·go_wp2_with fail
  go_loopw [3] (fun i wr=> ∃(k:Nat) (cur':Array Value),k<=n+12∧i = .int .i64 k∧wr.heap[b]? = some (.cells cur' T (0,0))∧cur'.size=cap∧fy b w wr) (fun i _=>n+12 - (intOf i).toNat)
  case atStart=>exact ⟨0,cur,WZ _,rfl,hblk,hs, .refl _ _⟩
  case round=>
   obtain ⟨k,cur',hk,rfl,hb',hs',hB⟩:=hrel;have HB:=Lib.hid hB;clear hB
   by_cases hlt:k<n+12
   ·have hcell:wr.cell? ⟨b,k,none⟩=some (cur'[k]'(by omega)):=by simp [World.cell?,hb',Xa (show k<cur'.size by omega)]
    have hfro:wr.frozen? ⟨b,k,none⟩=false:=by simp [World.frozen?,hb']
    have hbl:=(WR.1 hb').1;clear hcell hfro
    go_wp2_with fail
    refine (HM.out k (by omega) wr).mono ?_;rintro e w' ⟨⟨s,rfl⟩,hbw⟩;have hb2:w'.heap[b]? = some (.cells cur' T (0,0)):=(hbw.block b hbl).trans hb'
    have hcell:w'.cell? ⟨b,k,none⟩=some (cur'[k]'(by omega)):=by simp [World.cell?,hb2,Xa (show k<cur'.size by omega)]
    have hfro:w'.frozen? ⟨b,k,none⟩=false:=by simp [World.frozen?,hb2]
    have HB2:=Lib.hid (HB.out.below hbw);clear hbw
    go_wp2_with fail
    go_roundw
    case rel=>exact ⟨k+1,_,by omega,by go_num,vo hb2,by simpa using hs',HB2.out.set⟩
    case measure=>simp [intOf];omega
   ·go_wp2_with fail
    exact bodyPost_end (results_none rfl _ _ _) rfl ⟨rfl,HB.out⟩
theorem Br (w:World):Calls Tryz.prog 20 #[.slice none 0 0] w (fun e w'=>e = .returned (.tuple #[])∧w'=w):=by
 go_enter Tryz.func20,Tryz.ntmps20
 go_wp2_with fail
 go_loop [3] (fun i=>i = .int .i64 0) (fun i=>0)
 case atStart=>rfl
 case round=>
  subst hrel
  go_wp2_with fail
  exact bodyPost_end (results_none rfl _ _ _) rfl ⟨rfl,rfl⟩
theorem Bq (T:TypeId) (rows:List (List AV)) {n:Nat} (hn:n<=1000000) (hl:rows.length=n):da Tryz.prog 20 [.vec 0 n] [some ⟨T,1,true,rows⟩] (.cI []) [none]:=by
 refine ⟨by kernel_rfl,fun D nu w vargs hro hra=> ?_⟩;obtain ⟨hlen,hat⟩:=hra
 obtain ⟨x,rfl⟩: ∃x,vargs = #[x]:=by
  obtain ⟨l⟩:=vargs
  match l,hlen with
  | [x],_=>exact ⟨x,rfl⟩
 have hx:x=nu 0 n:=by
  have:=hat 0 _ x rfl rfl
  cases this with
  | vec=>rfl
 subst hx
 have hh:ab.hl ⟨T,1,true,rows⟩=n:=by simp [ab.hl,hl]
 rcases hro.obj 0 _ rfl with ⟨_,e2,e3⟩|⟨g,cur,hb⟩|⟨g,es,cl,hmp⟩
 ·simp only at e2
  obtain rfl:n=0:=by rw [<-hl,e2];rfl
  rw [e3];refine (Br w).mono ?_;rintro e w' ⟨rfl,rfl⟩;exact ⟨_,nu,[none], .cI [],rfl,c7 (o:=[some _]) 0,lG hro 0, .cI _ _ rfl (fun i c x h=>by simp at h),rfl,rfl⟩
 ·obtain ⟨cap,q1,q2,q3,q4⟩:=hb.vec rfl;simp only [hl,Nat.mul_one] at q1 q2 q4;rw [q1];refine (Bs w hb.fl q2 q3 q4 hn).mono ?_;rintro e w' ⟨rfl,hB⟩;obtain ⟨m1,m2⟩:=yr hro rfl hb.bF hB;exact ⟨_,nu,[none], .cI [],rfl,m1,m2, .cI _ _ rfl (fun i c x h=>by simp at h),rfl,rfl⟩
 ·have:=hmp.gw;cases this
theorem vj (x y:Ex):aq Tryz.prog 45 [.agg (aM x), .agg (aM y)] (.v (.bool (gu x y))):=
 .za (by kernel_rfl) (by simp only [aN,AV.wf,dL,YY]) (fun D nu w vargs h=>by
  obtain ⟨a,b,rfl,ha,hb⟩:=ze h;obtain ⟨ca,rfl,ka⟩:=zd ha;obtain ⟨cb,rfl,kb⟩:=zd hb
  exact zo x y ca cb w (zj x ca ka) (zj y cb kb))
theorem rW (x:Ex):gu x x=true:=(Gv x x).2 rfl
theorem JL {α:Type} (f:α->List AV) (l:List α) (m:List (List AV)) (i:Nat) (h:i<l.length):(l.map f++m).getD i []=f l[i]:=by
 rw [XR,WU (by simpa using h)];simp [h]
theorem Bg (f:Nat->List AV): ∀n i,i<n->(jV f n)[i]? = some (f i)
 | 0,i,h=>absurd h (by omega)
 | n+1,i,h=>by
  rw [jV]
  rcases Nat.lt_or_ge i n with q|q
  ·rw [WU (by rw [iH];exact q)];exact Bg f n i q
  ·obtain rfl:i=n:=by omega
   rw [Xr (by rw [iH];exact Nat.le_refl _),iH];simp
theorem Nb {α:Type} (f:α->List AV) (l:List α) (m:Nat->List AV) (j:Nat) (h:j<12):(l.map f++marksOf m).getD (l.length+j) []=m j:=by
 rw [XR,Xr (by simp),XQ,Nat.add_sub_cancel_left,marksOf,Bg m 12 j h];rfl
def Vv (i:Nat):Ex:= .mk ((8000024+i:Nat):Int) ⟨#[]⟩ []
theorem yO (l:List Ex) (hl:l.length<=1000000) (H: ∀x,x∈l->aq Tryz.prog 18 [.agg (cR x), .agg (aM x)] (.v (.bool true))) :
  aq Tryz.prog 46 [.aB 3 (l.map cR++marksOf dS) l.length, .aB 3 (l.map aM) l.length] (.v (.bool true)):=by
 have e1:IntKind.i64.wrap ((l.length:Int)+12)=((l.length+12:Nat):Int):=Q0 hl;refine gE Tryz.func46 Tryz.ntmps46 Tryz.results46 ?_
 repeat (first|(with_reducible first|refine aw.up ?_|refine fun (K:AK) hK=> ?_|refine wD ?_|(refine hK _ ?_;clear hK K))|simp only [go_sem,e1]|with_reducible refine wA ?_|clear hK K)
 refine bE (ι:=Nat) (fun i=>[(0, .aB 3 (l.map cR++marksOf dS) l.length),(1, .aB 3 (l.map aM) l.length),(4, .v (.bool false)),(5, .aB 3 (l.map cR++marksOf dS) (l.length+12)),(6, .v (.int .i64 i))]) (fun _=>[]) (fun i=>l.length+12 - i) (fun i=>i<=l.length+12) 0 (by omega) ?_ ?_
 ·refine bl ?_ ai
  rfl
 ·intro i hi K hK;simp only [dV,List.foldl_cons,List.foldl_nil,YB,YC,go_sem]
  (revert K;revert K;refine bU ?_;intro K hK K hK K hK)
  refine bD.part (fun h=> ?_) (fun h=> ?_)
  ·have hlt:i<l.length+12:=by replace h:=bG h;omega
   have eW:=ak (k:=i) (by omega)
   rcases Nat.lt_or_ge i l.length with q|q
   ·have g1:decide ((i:Int)<(l.length:Int))=true:=by simpa using q
    have g2:decide ((l.length:Int)<=(i:Int))=false:=by simpa using q
    have eG:=JL cR l (marksOf dS) i q;have eH:=getD_map aM l i [] q;have HX:=H l[i] (List.getElem_mem q);simp only [aA,jK] at HX eG eH
    repeat (first|(with_reducible first|refine aw.up ?_|refine fun (K:AK) hK=> ?_|refine wD ?_|(refine hK _ ?_;clear hK K))|simp only [go_sem,g1,g2,eG,eH]|with_reducible refine wA ?_|clear hK K)
    refine aE.one HX ?_
    ((iterate 5 revert K);refine uf g1 g2 eW ?_)
    exact az.mk (i+1) (by omega) (by omega) (by exact aR ai)
   ·obtain ⟨j,hj⟩: ∃j,i=l.length+j:=⟨i - l.length,by omega⟩;have g1:decide ((i:Int)<(l.length:Int))=false:=decide_eq_false (by omega);have g2:decide ((l.length:Int)<=(i:Int))=true:=decide_eq_true (by omega)
    have eS:IntKind.i64.wrap ((i:Int) - (l.length:Int))=(j:Int):=by rw [bH (by omega) (by omega)];omega
    have eG:(l.map cR++marksOf dS).getD i []=dS j:=by rw [hj];exact Nb cR l dS j (by omega)
    have M:=uK j (by omega);have S:=(vj (Vv j) (Vv j)).le (args':=[.agg (dS j), .agg (dS j)]) rfl (.cons (A9 j).agg (.cons (A9 j).agg .nil));rw [rW] at S;simp only [dS,Kk] at M S eG
    repeat (first|(with_reducible first|refine aw.up ?_|refine fun (K:AK) hK=> ?_|refine wD ?_|(refine hK _ ?_;clear hK K))|simp only [go_sem,g1,g2,eG,eS,eW,Go.undef]|with_reducible refine wA ?_|clear hK K)
    refine aE.one M ?_
    ((iterate 5 revert K);refine Dr g1 g2 eG eS eW ?_;iterate 5 intro K hK)
    refine aE.one S ?_
    ((iterate 5 revert K);refine Dr g1 g2 eG eS eW ?_)
    exact az.mk (i+1) (by omega) (by omega) (by exact aR ai)
  ·((iterate 3 revert K);exact r8)
theorem DH (x:Ex) (hx:x.lens 1000000):aq Tryz.prog 18 [.agg (cR x), .agg (aM x)] (.v (.bool true)):=by
 induction x using Ex.ind with
 | h k s l ih=>
  have hk: ∀y,y∈l->y.lens 1000000:=fun y hy z hz=>hx z (by rw [aj,bo];exact List.mem_cons_of_mem _ (List.mem_flatMap.2 ⟨y,hy,hz⟩));have C:=yO l (hx (.mk k s l) (by rw [aj];exact List.mem_cons_self)) (fun y hy=>ih y hy (hk y hy));have S:=(vj (.mk k s l) (.mk k s l)).le (args':=[.agg (cR (.mk k s l)), .agg (aM (.mk k s l))]) (by simp only [aN,AV.wf,nU,dL,YY]) (.cons (A8 _).agg (.cons (.refl _) .nil));rw [rW] at S;rw [aA,jK] at S ⊢;simp only [Ex.kind,Ex.label,Ex.kids] at S ⊢;refine gE Tryz.func18 Tryz.ntmps18 Tryz.results18 ?_
  (refine au ?_;intro K hK K hK)
  refine aa.one S ?_
  (revert K;revert K;refine au ?_;intro K hK K hK)
  refine aa.one C ?_
  (revert K;revert K;exact pR)
theorem K7 (l:List ByteArray):jS cH l l=true:=(ym l l (fun x _ y=>jd)).2 rfl
theorem Gn (A:oe) (hl:A.labs.length<=1000000) (hne:A.labs≠[]):da Tryz.prog 19 [.vp (b4 A)] [] (.vec 0 A.labs.length) [some ⟨9,1,true,A.labs.map encS⟩]:=by
 have C:=OU A.labs hl hne;have hR: ∀f,cG f (A.labs.map encS)=A.labs.map encS:=fun f=>dJ f _ (aO 0 _);simp only [b4,gV,aS,List.cons_append,YR] at *;refine gF Tryz.func19 Tryz.ntmps19 Tryz.results19 ?_
 (refine au ?_;intro K hK K hK)
 refine aa.fr [] C (by simp) rfl (by simp only [bP,AV.bg,hR]) (by simp only [aN,AV.wf,aO,YY]) (fun k ob hk=>by simp at hk) ?_;simp only [AV.bg,sig,eu,YW,Y5,ZL,Xu,ab.bg,hR,WS,YR,Nat.not_lt_zero,if_false,Nat.sub_zero,Nat.zero_add]
 (revert K;revert K;refine au ?_)
 (refine ⟨?_, ?_, ?_⟩<;>simp only [dv,ku,AV.v.injEq,Value.int.injEq,Value.bool.injEq,Value.string.injEq,AV.vec.injEq,AV.ptr.injEq,true_or,or_true,false_or,or_false,ab.mk.injEq,forall_eq_apply_imp_iff,forall_eq,forall_eq',go_sem])
theorem G4 {A:oe} (LO:FN A) (st:Int) (l:ByteArray):aq Tryz.prog 21 [.vp (b4 A), .vp (iK A), .v (.int .i64 st), .v (.string l)] (.v (.bool true)):=by
 have hfew:=LO.PZ;have hmax:=LO.max;have C1:=mH A;have C2:=Gm A (by omega);have C3:=BQ A.labs A.labs;rw [K7] at C3;have C4:=fun s=>pL A LO.ends s;have C5:=fun s=>BL LO.ends s;have C6:=fun s l=>pK A s l;have C7:=fun s l=>s6 LO s l
 have eLA:(de (A.rows.map (fh A.labs))).length=A.rows.length:=by rw [dq,XQ]
 have tA:(A.labs.map encS).take A.labs.length=A.labs.map encS:=List.take_of_length_le (by simp);have wn: ∀m,aN m (b4 A)=true:=fun m=>gK m A;have wf1:=kp 0 (A.rows.map (fh A.labs));generalize hnv:b4 A=nv at *;simp only [iK,aS] at C3 C2 C5 C7 ⊢;simp only [stepT] at C6 C7
 (refine aq.enter Tryz.func21 rfl (by kernel_rfl) (by kernel_rfl) rfl (by simp only [go_sem,aN,AV.wf,YY,Bool.and_true,Bool.true_and,wn]) (by simp only [go_sem,aN,AV.wf,aO,YY,Bool.and_true,Bool.true_and,wn]) ?_;simp only [Tryz.ntmps21,Tryz.results21,WY,WS,Nat.reduceAdd,Nat.reduceSub,YB,YC,List.cons_append,YR])
 repeat (first|(with_reducible first|refine aw.up ?_|refine fun (K:AK) hK=> ?_|refine wD ?_|(refine hK _ ?_;clear hK K))|simp only [go_sem,bne_self_eq_false,Go.undef]|with_reducible refine wA ?_|clear hK K)
 refine aE.one C1 ?_
 repeat (first|(with_reducible first|refine aw.up ?_|refine fun (K:AK) hK=> ?_|refine wD ?_|(refine hK _ ?_;clear hK K))|simp only [go_sem,bne_self_eq_false,beq_self_eq_true,ZM,ZN,Go.undef]|with_reducible refine wA ?_|clear hK K)
 refine aE.one C2 ?_
 repeat (first|(with_reducible first|refine aw.up ?_|refine fun (K:AK) hK=> ?_|refine wD ?_|(refine hK _ ?_;clear hK K))|simp only [go_sem,bne_self_eq_false,beq_self_eq_true,ZM,ZN,Go.undef]|with_reducible refine wA ?_|clear hK K)
 refine aE.one C3 ?_
 repeat (first|(with_reducible first|refine aw.up ?_|refine fun (K:AK) hK=> ?_|refine wD ?_|(refine hK _ ?_;clear hK K))|simp only [go_sem,bne_self_eq_false,beq_self_eq_true,ZM,ZN,Go.undef]|with_reducible refine wA ?_|clear hK K)
 refine aE.one (C4 st) ?_
 repeat (first|(with_reducible first|refine aw.up ?_|refine fun (K:AK) hK=> ?_|refine wD ?_|(refine hK _ ?_;clear hK K))|simp only [go_sem,bne_self_eq_false,beq_self_eq_true,ZM,ZN,Go.undef]|with_reducible refine wA ?_|clear hK K)
 refine aE.one (C5 st) ?_
 repeat ((fail_if_success (with_reducible refine bm (i:=4) ?_));first|(with_reducible first|refine aw.up ?_|refine fun (K:AK) hK=> ?_|(refine hK _ ?_;clear hK K))|simp only [go_sem,bne_self_eq_false,beq_self_eq_true,ZM,ZN,Go.undef,tA]|with_reducible refine wA ?_|clear hK K)
 have eAll:[AV.v (.string l)] :: A.labs.map encS=(l :: A.labs).map encS:=rfl
 have lAll:1+A.labs.length=(l :: A.labs).length:=by rw [WY];omega
 simp only [eAll,lAll];refine a7 (fZ 9 0 rfl rfl rfl (XQ _)) (by kernel_rfl) ?_;simp only [List.set_cons_zero,List.set_cons_succ];generalize hall:l :: A.labs=all at *
 have lal:all.length<=100:=by rw [<-hall,WY];omega
 (revert K;revert K;refine bU ?_;intro K hK)
 refine bf (ι:=Nat) 17 (fun j=>[(10, .v (.int .i64 ((j:Int) - 1))),(11, .undef),(12, .undef),(13, .undef),(14, .undef),(15, .undef),(16, .undef)]) (fun j=>A.rows.length+2 - j) (fun j=>j<=A.rows.length+2) 0 (WZ _) ?_ ?_
 ·refine bl ?_ ai
  all_goals first|exact wn _|exact ⟨wn _,rfl⟩|trace_state
 ·intro j hj K hK
  have eW:IntKind.i64.wrap (((j:Int) - 1)+1)=(((j+1:Nat):Int) - 1):=by rw [bH (by omega) (by omega)];omega
  (revert K;revert K;refine bU ?_;intro K hK K hK K hK)
  refine bD.part (fun h=> ?_) (fun h=> ?_)
  ·have hlt:j<A.rows.length+2:=by replace h:=bG h;omega
   repeat ((fail_if_success (with_reducible refine SR (i:=8) ?_));first|(with_reducible first|refine aw.up ?_|refine fun (K:AK) hK=> ?_|(refine hK _ ?_;clear hK K))|simp only [go_sem]|with_reducible refine wA ?_|clear hK K)
   obtain ⟨at',hat⟩: ∃at':Int,at'=if j=0 then st else (j:Int) - 1:=⟨_,rfl⟩
   refine Ac ⟨dV 107 [(0, .vp nv),(1, .vp [.aB 1 (A.labs.map encS) A.labs.length, .aB 1 (de (A.rows.map (fh A.labs))) A.rows.length, .aB 1 (cB A.ends) A.rows.length]),(2, .v (.int .i64 st)),(3, .v (.string l)),(8, .v (.bool false)),(9, .aB 1 (all.map encS) all.length),(10, .v (.int .i64 ((j:Int) - 1))),(11, .v (.int .i64 at'))],[none], .no⟩ (by kernel_rfl) (by kernel_rfl) ?_ ?_
   ·by_cases hj0:j=0
    ·have d1:decide (((j:Int) - 1)<0)=true:=decide_eq_true (by omega);rw [if_pos hj0] at hat;rw [hat]
     ((iterate 3 revert K);refine w8 d1 ?_)
     refine bl ?_ ai
     all_goals first|exact wn _|exact ⟨wn _,rfl⟩|trace_state
    ·have d1:decide (((j:Int) - 1)<0)=false:=decide_eq_false (by omega);rw [if_neg hj0] at hat;rw [hat]
     ((iterate 3 revert K);refine w8 d1 ?_)
     refine bl ?_ ai
     all_goals first|exact wn _|exact ⟨wn _,rfl⟩|trace_state
   ·simp only [dV,List.foldl_cons,List.foldl_nil,YB,YC,go_sem];clear hat
    ((iterate 3 revert K);refine bU ?_;intro K hK K hK K hK)
    refine bf (ι:=Nat) 17 (fun k=>[(12, .v (.int .i64 k)),(13, .undef),(14, .undef),(15, .undef),(16, .undef)]) (fun k=>all.length - k) (fun k=>k<=all.length) 0 (WZ _) ?_ ?_
    ·refine bl ?_ ai
     all_goals first|exact wn _|exact ⟨wn _,rfl⟩|trace_state
    ·intro k hk K hK;have eWk:=ak (k:=k) (by omega)
     ((iterate 4 revert K);refine bU ?_;iterate 5 intro K hK)
     refine bD.part (fun h2=> ?_) (fun h2=> ?_)
     ·have hkl:k<all.length:=by replace h2:=bG h2;omega
      have eG:=getD_map encS all k [] hkl;simp only [encS] at eG
      repeat (first|(with_reducible first|refine aw.up ?_|refine fun (K:AK) hK=> ?_|refine wD ?_|(refine hK _ ?_;clear hK K))|simp only [go_sem,h2,eG]|with_reducible refine wA ?_|clear hK K)
      refine aa.one (C6 at' all[k]) ?_
      repeat (first|(with_reducible first|refine aw.up ?_|refine fun (K:AK) hK=> ?_|refine wD ?_|(refine hK _ ?_;clear hK K))|simp only [go_sem,h2,eG]|with_reducible refine wA ?_|clear hK K)
      refine aa.one (C7 at' all[k]) ?_
      repeat (first|(with_reducible first|refine aw.up ?_|refine fun (K:AK) hK=> ?_|refine wD ?_|(refine hK _ ?_;clear hK K))|simp only [go_sem,bne_self_eq_false,beq_self_eq_true,ZM,ZN,Go.undef]|with_reducible refine wA ?_|clear hK K)
      refine aa.one (C4 at') ?_
      repeat (first|(with_reducible first|refine aw.up ?_|refine fun (K:AK) hK=> ?_|refine wD ?_|(refine hK _ ?_;clear hK K))|simp only [go_sem,bne_self_eq_false,beq_self_eq_true,ZM,ZN,Go.undef]|with_reducible refine wA ?_|clear hK K)
      refine aa.one (C5 at') ?_
      repeat (first|(with_reducible first|refine aw.up ?_|refine fun (K:AK) hK=> ?_|refine wD ?_|(refine hK _ ?_;clear hK K))|simp only [go_sem,bne_self_eq_false,beq_self_eq_true,ZM,ZN,Go.undef]|with_reducible refine wA ?_|clear hK K)
      refine w8 eWk ?_;exact az.mk (k+1) hkl (by omega) (by refine bl ?_ ai;exact wn _)
     ·((iterate 5 revert K);refine bU ?_)
      refine w8 eW ?_;refine az.mk (j+1) hlt (by omega) ?_;refine bl ?_ ai
      all_goals first|exact wn _|exact ⟨wn _,rfl⟩|trace_state
  ·((iterate 3 revert K);exact r8)
theorem qL {x:Ex} {labs:List ByteArray} {e:Int} (h:gU x labs = .inr e):e=2∨e=11:=by
 unfold gU at h
 split at h
 ·split at h
  ·split at h
   ·cases h;exact .inr rfl
   ·cases h
  ·cases h;exact .inr rfl
 ·cases h;exact .inl rfl
theorem No {x:Ex} (hr:aC x=true):bR x≠[]:=by
 obtain ⟨f,hf⟩:=ue (dN hr).1 0;have h2:=fN x hf;intro e
 have hl:0<(aD x).length:=by omega
 have:(aD x)[0]∈bR x:=kV.2 (List.getElem_mem hl)
 rw [e] at this;cases this
theorem ft (x:Ex) (st:Int) (l:ByteArray) (ko:x.ok):aq Tryz.prog 4 [.agg (aM x), .v (.int .i64 st), .v (.string l)] (.v (.bool true)):=by
 have W:=qM;have N0:=oK x ko;have Z:=rk x 0 (by omega)
 rcases Bool.eq_false_or_eq_true (decide (300<((sX x 0:Nat):Int))) with hz|hz
 ·simp only [aA] at Z ⊢;refine gE Tryz.func4 Tryz.ntmps4 Tryz.results4 ?_
  (refine bq ?_;intro K hK K hK K hK)
  refine aa.one Z ?_
  ((iterate 3 revert K);refine l9 hz ?_;intro K hK K hK K hK)
  refine aa.one W ?_
  ((iterate 3 revert K);exact pS)
 obtain ⟨p1,p2⟩:=nh ko (by have:=of_decide_eq_false hz;omega);have M:=y7 x p1 p2;have hlens:=MW (n:=1000000) p1;have L:=DM x hlens;have KE:=DH x hlens;have N:=N0.le (args':=[.agg (cR x)]) (by simp only [aN,AV.wf,nU,YY]) (.cons (A8 x).agg .nil);rw [uR] at N;rw [DQ] at M
 cases hA:gU x (bR x) with
 | inr e=>
  have he:=qL hA;rw [hA] at N M;simp only at N M
  have d1:(e !=0)=true:=by rcases he with rfl|rfl<;>rfl
  simp only [aA,jK] at N Z M L KE ⊢;refine gE Tryz.func4 Tryz.ntmps4 Tryz.results4 ?_
  (refine bq ?_;intro K hK K hK K hK)
  refine aa.one Z ?_
  ((iterate 3 revert K);refine l9 hz ?_;intro K hK K hK)
  refine aa.one L ?_
  (revert K;revert K;refine l9 hz ?_;intro K hK K hK)
  refine aa.one N ?_
  (revert K;revert K;refine l9 hz ?_;intro K hK K hK)
  refine aa.one M ?_
  repeat (first|(with_reducible first|refine aw.up ?_|refine fun (K:AK) hK=> ?_|(refine hK _ ?_;clear hK K))|simp only [go_sem,hz,d1,bne_self_eq_false,beq_self_eq_true,ZM,ZN,Go.undef]|clear hK K)
  refine aa.one KE ?_
  ((iterate 3 revert K);refine l9 hz ?_;intro K hK K hK K hK)
  refine aa.one W ?_
  ((iterate 3 revert K);exact Pb hz)
 | inl A=>
  obtain ⟨hr,hlb,_,LO⟩:=pB hA;rw [hA] at N M;simp only at N M
  have hne:A.labs≠[]:=by rw [hlb];exact No hr
  have hfew:=LO.PZ;have F1:=Gn A (by omega) hne;have LS:=G4 LO st l;have OV:=Bq 9 (A.labs.map encS) (n:=A.labs.length) (by omega) (by simp);have hR: ∀f,cG f (A.labs.map encS)=A.labs.map encS:=fun f=>dJ f _ (aO 0 _);have wR: ∀m,bj m (A.labs.map encS)=true:=fun m=>aO m _;have wn: ∀m,aN m (b4 A)=true:=fun m=>gK m A;generalize hnv:b4 A=nv at *;have rn: ∀f,bP f nv=nv:=fun f=>gH f _ (wn 0);have wr: ∀m,aN m (iK A)=true:=fun m=>qx m A;generalize hrv:iK A=rv at *;simp only [aA,jK] at N Z M L KE ⊢;refine gE Tryz.func4 Tryz.ntmps4 Tryz.results4 ?_
  (refine bq ?_;intro K hK K hK K hK)
  refine aa.one Z ?_
  ((iterate 3 revert K);refine l9 hz ?_;intro K hK K hK)
  refine aa.one L ?_
  (revert K;revert K;refine l9 hz ?_;intro K hK K hK)
  refine aa.one N ?_
  (revert K;revert K;refine l9 hz ?_;intro K hK K hK)
  refine aa.one M ?_
  repeat (first|(with_reducible first|refine aw.up ?_|refine fun (K:AK) hK=> ?_|(refine hK _ ?_;clear hK K))|simp only [go_sem,hz,bne_self_eq_false,beq_self_eq_true,ZM,ZN,Go.undef]|clear hK K)
  refine aa.fr [] F1 (by simp) rfl (by simp only [bP,AV.bg,rn]) (by simp only [aN,AV.wf,wn,YY]) (fun k ob hk=>by simp at hk) ?_;simp only [AV.bg,sig,eu,YW,Y5,ZL,Xu,ab.bg,hR,WS,YR,Nat.not_lt_zero,if_false,Nat.sub_zero,Nat.zero_add]
  (revert K;revert K;refine l9 hz ?_;intro K hK K hK)
  refine aa.fr [2] OV (by simp) (by simp only [YW,Y5,ab.bg,hR,Xu];rfl) rfl rfl (fun k ob hk=> ?_) ?_
  ·cases k with
   | zero=>cases hk;exact wR _
   | succ k=>simp at hk
  simp only [AV.bg,bP,sig,eu,YW,Y5,ZL,Xu,List.append_nil,WY,WS,List.set_cons_succ,List.set_cons_zero]
  repeat (first|(with_reducible first|refine aw.up ?_|refine fun (K:AK) hK=> ?_|(refine hK _ ?_;clear hK K))|simp only [go_sem,hz,Go.undef,beq_self_eq_true,bne_self_eq_false,ZM,ZN]|clear hK K)
  refine aa.one LS ?_
  repeat (first|(with_reducible first|refine aw.up ?_|refine fun (K:AK) hK=> ?_|(refine hK _ ?_;clear hK K))|simp only [go_sem,hz,Go.undef,beq_self_eq_true,bne_self_eq_false,ZM,ZN]|clear hK K)
  refine aa.one KE ?_
  repeat (first|(with_reducible first|refine aw.up ?_|refine fun (K:AK) hK=> ?_|(refine hK _ ?_;clear hK K))|simp only [go_sem,hz,Go.undef,beq_self_eq_true,bne_self_eq_false,ZM,ZN]|clear hK K)
  refine aa.one W ?_
  repeat (first|(with_reducible first|refine aw.up ?_|refine fun (K:AK) hK=> ?_|(refine hK _ ?_;clear hK K))|simp only [go_sem,hz,Go.undef,beq_self_eq_true,bne_self_eq_false,ZM,ZN]|clear hK K)
end Go.Proofs.YtfflpdekojlnmaaGreatDoor
