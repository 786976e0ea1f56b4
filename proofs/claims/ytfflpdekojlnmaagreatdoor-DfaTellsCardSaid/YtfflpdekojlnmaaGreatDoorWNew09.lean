/- texts of one claim, one behind the other. -/
import Derived.Test.YtfflpdekojlnmaaGreatDoorWOpenX
import Derived.Test.YtfflpdekojlnmaaGreatDoorWWaysP
import Derived.Test.YtfflpdekojlnmaaGreatDoorWTellP
import Derived.Sort.Walk0
set_option linter.unusedSimpArgs false
set_option linter.unusedVariables false
set_option maxRecDepth 100000
set_option maxHeartbeats 16000000
open Bool renaming eq_iff_iff -> WL, and_self -> WA
open List renaming map_map -> WB, length_map -> Vp, length_append -> UC, replicate_succ -> Wc, getD_eq_getElem?_getD -> Vq, map_append -> Wv, getElem?_append_right -> U2, length_singleton -> Wx, cons_append -> WE, nil_append -> Wt, getElem?_map -> UP, getElem?_eq_getElem -> UM, take_succ_eq_append_getElem -> WG, drop_succ_cons -> W5, drop_zero -> W6, getElem_map -> Wp, length_cons -> UD, length_nil -> Ux, mem_append_left -> Wn, map_nil -> WI, set_cons_zero -> Wb, set_cons_succ -> Wa, mem_append -> Wr, mem_singleton -> Wq, getElem_mem -> VU, getElem?_eq_none -> UR, take_length -> Xi, length_take -> UY
open Nat renaming sub_self -> VD, zero_le -> UE, lt_add_one -> WX, zero_lt_one -> WY, zero_lt_succ -> W9
open Option renaming toList_some -> Xr
namespace Go.Proofs.YtfflpdekojlnmaaGreatDoor
open Go.RowKit
section
section
variable {P:Program}
theorem Bf {n0:Nat} {Q:aY->AS->Prop} {ι:Type} {c:Code} {t:List AV} {o:List (Option aa)} {y:jo} (d1:Nat) (T1:TypeId) (z1:Nat) (hd1:t[d1]? = some (.v (.slice none 0 0))) (hz1:0<z1) (d2:Nat) (T2:TypeId) (z2:Nat) (hd2:(t.set d1 (.vec o.length 0))[d2]? = some (.v (.slice none 0 0))) (hz2:0<z2)
  (m:Nat) (upd:ι->List (Nat×AV)) (ob:ι->List (Option aa)) (mu:ι->Nat) (ok:ι->Prop) (i0:ι) (h3:ok i0)
  (h2:Wk n0 ⟨(t.set d1 (.vec o.length 0)).set d2 (.vec (o++[some (aa.mk T1 z1 true [])]).length 0),(o++[some (aa.mk T1 z1 true [])])++[some (aa.mk T2 z2 true [])],y⟩ ⟨j6 (cK m t) (upd i0),ob i0,y⟩)
  (h: ∀i,ok i-> ∀K:AS->Prop,(∀s2,az n0 (fun i=>⟨j6 (cK m t) (upd i),ob i,y⟩) mu ok (mu i) s2->K s2)->cj P n0 c ⟨j6 (cK m t) (upd i),ob i,y⟩ (lW K Q)):cj P n0 (.loop c) ⟨t,o,y⟩ Q:=
 kp (fun i=>AS.mk (j6 (cK m t) (upd i)) (ob i) y) mu ok i0 _ (Gs.step d2 T2 z2 _ (Gs.step d1 T1 z1 (AS.mk t o y) .refl hd1 hz1) hd2 hz2) h2 h3 h
end
def cG (l:List Bool):List (List AV):=l.map (fun b=>[.v (.bool b)])
@[go_sem] theorem gG (l:List Bool):(cG l).length=l.length:=by simp [cG]
@[go_sem] theorem mE (n:Nat) (l:List Bool):bw n (cG l)=true:=bB _ (fun _=>rfl) _
attribute [go_sem] dN
def mA (labs:List ByteArray):Option mK->AV
 | some st=> .cI [.aC 1 (da (st.rows.map (fh labs))) st.rows.length, .aC 1 (cG st.ends) st.ends.length, .v (.bool true)]
 | none=> .cI [.v (.slice none 0 0), .v (.slice none 0 0), .v (.bool false)]
theorem F9 (labs:List ByteArray) (o:Option mK):(mA labs o).wf 0=true:=by
 cases o with
 | none=>rfl
 | some st=>simp only [mA,AV.wf,aV,jW,mE,Bool.and_self]
def J5 (x:Ex) (labs:List ByteArray) (st:mK):List (Option aa):=[some ⟨25,3,false,[[.v (.int .i64 x.kind), .v (.string x.label), .aC 3 (x.kids.map aN) x.kids.length]]⟩,none,some ⟨79,1,true,st.all.map oN⟩,some ⟨79,1,true,da (st.rows.map (fh labs))⟩,some ⟨4,1,true,cG st.ends⟩]
theorem oZ (l:List Nat):aI l=(br l).map encI:=by rw [aI,br,WB];rfl
theorem Kr (l:List (List Nat)):l.map oN=da (l.map br):=by
 rw [da,WB];refine List.map_congr_left fun a _=> ?_;rw [oN,Function.comp,oZ,br,Vp]
theorem vt {a b:List Nat}:br a=br b↔a=b:=by
 constructor
 ·intro h
  have:=congrArg (List.map Int.toNat) h
  simpa [br,WB,Function.comp_def] using this
 ·rintro rfl;rfl
theorem EO (l:List (List Nat)) (s:List Nat):(l.map br).findIdx? (fun y=>decide (br s=y))=l.findIdx? (fun y=>s==y):=by
 induction l with
 | nil=>rfl
 | cons a l ih=>
  rw [List.map_cons,List.findIdx?_cons,List.findIdx?_cons,ih]
  by_cases e:s=a
  ·rw [beq_iff_eq.2 e,decide_eq_true (vt.2 e)]
  ·rw [beq_eq_false_iff_ne.2 e,decide_eq_false (fun q=>e (vt.1 q))]
def Rh (L:List (List Nat)) (s:List Nat):Int:=match L.findIdx? (fun y=>s==y) with
 | some k=>(k:Int)
 | none=> -1
theorem PK (L:List (List Nat)) (s:List Nat):Nt (L.map br) (br s)=Rh L s:=by
 rw [Nt,EO,Rh];cases L.findIdx? (fun y=>s==y)<;>rfl
theorem Ns (L:List (List Nat)) (s:List Nat) (hL:L.length<=1000000) (hl: ∀l∈L,l.length<=1000000) (hs:s.length<=1000000):ar Tryz.prog 71 [.aC 1 (L.map oN) L.length, .aC 1 (aI s) s.length] (.v (.int .i64 (Rh L s))):=by
 have:=GL (L.map br) (br s) (by simpa using hL) (fun l h=>by
  obtain ⟨a,ha,rfl⟩:=List.mem_map.1 h
  simpa [br] using hl a ha) (by simpa [br] using hs)
 rw [<-Kr, <- oZ,PK,Vp,show (br s).length=s.length by simp [br]] at this;exact this
theorem JA {x:Ex} (hr:ay x=true) (cur:List Nat) (lab:ByteArray) (hn:(aB x).length<=1000) (hl:cur.length<=1000000):ar Tryz.prog 70 [.vp (tK x), .aC 1 (aI cur) cur.length, .v (.string lab)] (.aC 1 (aI (aP (aO x) cur lab)) (aP (aO x) cur lab).length):=by
 have:=LX x (br cur) lab hn (by simpa [br] using hl)
 rw [<-step_eq hr, <- oZ] at this;simpa [br,aP] using this
def kI (A:List Int) (n:Nat):List (List AV):=(A++List.replicate (n - A.length) (0:Int)).map encI
theorem iY {A:List Int} {n:Nat} (h:A.length<=n):(kI A n).length=n:=by rw [kI,Vp,UC,List.length_replicate];omega
theorem px (n:Nat):List.replicate n [AV.v (.int .i64 0)]=kI [] n:=by simp [kI,encI]
theorem rH {A:List Int} {n:Nat} (h:A.length=n):kI A n=A.map encI:=by rw [kI,h,VD];simp
@[go_sem] theorem S5 (z:Nat) (A:List Int) (n:Nat):bw z (kI A n)=true:=bB _ (fun _=>rfl) _
theorem my {A:List Int} {n k:Nat} (hA:A.length=k) (h:k<n):(kI A n).getD k []=[.v (.int .i64 0)]:=by
 subst hA;rw [kI,show n - A.length=(n - (A.length+1))+1 by omega,Wc,Vq,Wv,U2 (by rw [Vp];exact Nat.le_refl _),Vp,VD]
 rfl
theorem pw {A:List Int} {n k:Nat} (v:Int) (hA:A.length=k) (h:k<n):(kI A n).set k [.v (.int .i64 v)]=kI (A++[v]) n:=by
 subst hA;rw [kI,kI,show n - A.length=(n - (A++[v]).length)+1 by rw [UC,Wx];omega,Wc];simp [List.set_append,encI]
theorem xY {A:List Int} {n k:Nat} (u:Int) (hA:A.length=k):(kI (A++[u]) n).getD k []=[.v (.int .i64 u)]:=by
 subst hA;rw [kI,Vq,List.append_assoc,Wv,U2 (by rw [Vp];exact Nat.le_refl _),Vp,VD]
 rfl
theorem tP {A:List Int} {n k:Nat} (u v:Int) (hA:A.length=k):(kI (A++[u]) n).set k [.v (.int .i64 v)]=kI (A++[v]) n:=by
 subst hA;rw [kI,kI,show (A++[u]).length=(A++[v]).length by simp];simp [List.set_append,encI]
theorem Ls {x:Ex} (hr:ay x=true) {a:List Nat} (h:Made (aP (aO x)) a): ∀p∈a,p<=(aB x).length:=fun p hp=>by
 have L:=iq hr
 rcases h.2 with rfl|⟨cur,l,rfl⟩
 ·simp only [List.mem_singleton] at hp;omega
 ·obtain ⟨q,_,_,k,_⟩:=(jl L.ok).1 hp
  have:=(L.ok.qK _ _ k).2
  rw [L.labs] at this;exact this
def AG (g:Nat->Bool) (p:Nat):Bool:=decide (0<p)&&g (p - 1)
theorem Hb {N:Nat} {g:Nat->Bool} {p:Nat} (h:p<=N):(ja N g).contains p=AG g p:=by
 rw [WL,List.contains_iff_mem,tU,AG,Bool.and_eq_true,decide_eq_true_eq];exact ⟨fun q=>⟨by omega,q.2.2⟩,fun q=>⟨by omega,h,q.2⟩⟩
theorem any_eq {N:Nat} {g:Nat->Bool} {l:List Nat} (h: ∀p∈l,p<=N):l.any (fun p=>(ja N g).contains p)=l.any (AG g):=by
 rw [WL,List.any_eq_true,List.any_eq_true];exact ⟨fun ⟨p,hp,q⟩=>⟨p,hp,by rw [<-Hb (h p hp)];exact q⟩,fun ⟨p,hp,q⟩=>⟨p,hp,by rw [Hb (h p hp)];exact q⟩⟩
theorem Js {x:Ex} (hr:ay x=true) (h1:(ah x).length<=1000000) (hz: ∀z,z∈ah x->z.kids.length<=1000000∧z.label.size<=1000000000000000) (labs:List ByteArray) (hn:labs.Nodup) (hl:labs.length<=1000) (hN:(aB x).length<=1000):ar Tryz.prog 38 [.agg (aN x),ba labs] (mA labs (mB x labs)):=by
 have CN:=LD x h1 hz;rw [hr,if_pos rfl] at CN;have wR:=je 0 x;have CS:=fun cur lab hc=>JA hr cur lab hN hc;have eS:mB x labs=nC (aP (aO x)) (aO x).em (aq (aO x).la) labs:=rfl;rw [eS];have hEm:=Mf hr;generalize (aO x).em=em at *
 have hA:aV 0 [AV.agg (aN x),ba labs]=true:=by simp only [ba,aV,AV.wf,dA,a7,Bool.and_self]
 have hF:=F9 labs (nC (aP (aO x)) em (aq (aO x).la) labs);generalize hrv:mA labs (nC (aP (aO x)) em (aq (aO x).la) labs)=rv at hF ⊢;simp only [aD,ba] at *
 (refine ar.mc Tryz.func38 rfl (by kernel_rfl) (by kernel_rfl) rfl hA hF ?_;simp only [Tryz.ntmps38,Tryz.results38,List.length_cons,List.length_nil,Nat.reduceAdd,Nat.reduceSub,Wc,List.replicate_zero,WE,Wt])
 (refine qN ?_;intro K hK K hK)
 refine ab.one CN ?_
 repeat ((fail_if_success (with_reducible refine bF (i:=3) ?_));first|(with_reducible first|refine aA.up ?_|refine fun (K:AK) hK=> ?_|refine ae (by decide) ?_|(refine hK _ ?_;clear hK K))|simp only [go_sem]|with_reducible refine wA ?_|clear hK K)
 refine bc (dz (k:=2) (i:=0) (j:=0) (by decide) rfl (Nat.zero_lt_succ _) rfl rfl rfl rfl rfl) (by kernel_rfl) ?_;simp only [List.set_cons_zero,List.set_cons_succ]
 (revert K;refine qN ?_;intro K hK)
 refine Bf (ι:=mK) 10 79 1 rfl (by decide) 11 4 1 rfl (by decide) 18 (fun st=>[(9, .vec 2 st.all.length),(10, .vec 3 st.rows.length),(11, .vec 4 st.rows.length),(12, .v (.int .i64 st.rows.length))]) (J5 x labs) (fun st=>257 - st.rows.length) (fun st=>A0 labs st∧(∀a∈st.all,Made (aP (aO x)) a)∧mA labs (mz (aP (aO x)) em (aq (aO x).la) labs (257 - st.rows.length) st)=rv) s0
  ⟨L4 labs,fun a ha=>by simp only [s0,List.mem_singleton] at ha;subst ha;exact ⟨by simp, .inl rfl⟩,hrv⟩ ?_ ?_
 ·simp only [J5,s0]
  refine iI ?_ ?_ aj
  ·exact ⟨je _ _,rfl⟩
  ·exact ⟨⟨rfl,nc _ _⟩,rfl,rfl⟩
 ·rintro st ⟨hok,hmade,hrun⟩ K hK;have h257:=hok.max;have hel:=hok.ends;simp only [J5]
  (revert K;revert K;refine qN ?_;intro K hK K hK K hK)
  refine bH.part (fun h=> ?_) (fun h=> ?_)
  ·have hlt:st.rows.length<st.all.length:=by replace h:=bI h;omega
   rw [show 257 - st.rows.length=(256 - st.rows.length)+1 by have:=hok.le;omega,mz,if_pos hlt] at hrun;obtain ⟨hcm,hcl⟩:=oe (hmade _ (aZ (d:=[]) hlt));rw [<-bu] at hcm hcl;have h0:[]∉st.all:=fun hm=>(hmade _ hm).1 rfl;have eZ:=px labs.length
   repeat (first|(with_reducible first|refine aA.up ?_|refine fun (K:AK) hK=> ?_|refine wD ?_|refine ae (by decide) ?_|(refine hK _ ?_;clear hK K))|simp only [go_sem,h,eZ]|with_reducible refine wA ?_|clear hK K)
   refine aQ (ι:=Nat) 18 (fun k=>[(9, .vec 2 (tJ (aP (aO x)) (bu st) st.all (labs.take k)).1.length),(14, .v (.int .i64 k)),(15, .undef)]) (fun k=>J5 x labs { st with all:=(tJ (aP (aO x)) (bu st) st.all (labs.take k)).1 }++[some ⟨3,1,true,kI (tJ (aP (aO x)) (bu st) st.all (labs.take k)).2 labs.length⟩]) (fun k=>labs.length - k) (fun k=>k<=labs.length) 0 (Nat.zero_le _) ?_ ?_
   ·simp only [J5,List.take_zero,tJ,List.foldl_nil,WE,Wt];refine bo ?_ aj;exact ⟨je _ _,rfl⟩
   ·intro k hk K hK;obtain ⟨k1,k2,k3,k4,k5,t,k6⟩:=rI (aP (aO x)) (cur:=bu st) hok.nd (labs.take k);have hmd:=qv (aP (aO x)) hmade (cur:=bu st) (labs.take k);obtain ⟨eR,hne⟩:=DB (aP (aO x)) (bu st) h0 (labs.take k) (hn.sublist (List.take_sublist _ _))
    have hr2:(tJ (aP (aO x)) (bu st) st.all (labs.take k)).2.length=k:=by rw [eR];simp only [dc,List.length_take];omega
    rw [show (dr (aP (aO x)) (bu st) st.all (labs.take k)).1=(tJ (aP (aO x)) (bu st) st.all (labs.take k)).1 by rw [eR]] at k3 k4 k6 hmd hne
    rcases hRi:tJ (aP (aO x)) (bu st) st.all (labs.take k) with ⟨al,ro⟩
    rw [hRi] at k3 k4 k6 hmd hne hr2;simp only at k3 k4 k6 hmd hne hr2
    have hal:al.length<=2000:=by rw [List.length_take] at k4;omega
    simp only [J5,WE,Wt]
    ((iterate 5 revert K);refine qN ?_;iterate 6 intro K hK)
    refine bH.part (fun h2=> ?_) (fun h2=> ?_)
    ·have hli:k<labs.length:=by replace h2:=bI h2;omega
     have eW:=ak (k:=k) (by omega);have eG:=getD_map encS labs k [] hli
     have eC:(al.map oN).getD st.rows.length []=[.aC 1 (aI (bu st)) (bu st).length]:=by
      have hx:al.getD st.rows.length []=bu st:=by rw [k6,bW hlt];rfl
      rw [Vq,UP,UM (by omega)];rw [Vq,UM (by omega)] at hx;simp only [Option.map_some,Option.getD_some] at hx ⊢;rw [hx];rfl
     have hNx:=vR (aP (aO x)) (bu st) st.all (labs.take k) labs[k];rw [<-WG hli,hRi,Rj] at hNx;simp only at hNx;have CSk:=CS (bu st) labs[k] (by omega);obtain ⟨ts,tl⟩:=kT (iw (aO x) (fH (aO x) (br (bu st))) labs[k]);have tl':(aP (aO x) (bu st) labs[k]).length<=1000:=tl;have AT:=Ns al (aP (aO x) (bu st) labs[k]) (by omega) (fun l hl=>by have:=(oe (hmd l hl)).2;omega) (by omega);rw [Rh] at AT;generalize hto:aP (aO x) (bu st) labs[k]=to at *;have eLr:(kI ro labs.length).length=labs.length:=iY (by omega);simp only [encS] at eG;have wfA: ∀n,bw n (al.map oN)=true:=fun n=>bB _ (nc n) _;have gZ:=my (n:=labs.length) hr2 hli;have sQ:=fun v=>pw (n:=labs.length) v hr2 hli;have gQ:=fun u=>xY (n:=labs.length) u hr2;have sR:=fun u v=>tP (n:=labs.length) u v hr2;have eL2: ∀v:Int,(kI (ro++[v]) labs.length).length=labs.length:=fun v=>iY (by rw [UC,Wx];omega)
     repeat (first|(with_reducible first|refine aA.up ?_|refine fun (K:AK) hK=> ?_|refine wD ?_|refine ae (by decide) ?_|(refine hK _ ?_;clear hK K))|simp only [go_sem,eG,eC,h2]|with_reducible refine wA ?_|clear hK K)
     refine bj.one CSk ?_
     ((iterate 8 revert K);refine P1 eG eC h2 ?_;iterate 8 intro K hK)
     cases hp:al.findIdx? (fun y=>to==y) with
     | some j=>
      rw [hp] at AT hNx;simp only at AT hNx
      have hto:to≠[]:=fun e=>by
       obtain ⟨q1,q2,_⟩:=List.findIdx?_eq_some_iff_getElem.1 hp;rw [beq_iff_eq] at q2;exact hne (by rw [<-e,q2];exact List.getElem_mem q1)
      have d1:decide ((0:Int)<(to.length:Int))=true:=decide_eq_true (by have:=List.length_pos_iff.2 hto;omega);have d2:decide ((j:Int)<0)=false:=decide_eq_false (by omega);refine ab.J4 AT 8 rfl (by simp only [go_sem,Nat.reduceLT,Nat.reduceLeDiff,Nat.reduceEqDiff,Nat.lt_add_one,Nat.zero_lt_one,and_self,wfA,Vp]) rfl ?_
      repeat (first|(with_reducible first|refine aA.up ?_|refine fun (K:AK) hK=> ?_|refine wD ?_|refine ae (by decide) ?_|(refine hK _ ?_;clear hK K))|simp only [go_sem,eLr,gZ,W5,W6,sQ,d1,d2,gQ,eL2,Go.undef]|with_reducible refine wA ?_|clear hK K)
      refine vg eW ?_;refine az.mk (k+1) (by omega) (by omega) ?_;rw [hNx];simp only [J5,WE,Wt];refine bo ?_ aj;exact je _ _
     | none=>
      rw [hp] at AT hNx;simp only at AT hNx;refine ab.J4 AT 8 rfl (by simp only [go_sem,Nat.reduceLT,Nat.reduceLeDiff,Nat.reduceEqDiff,Nat.lt_add_one,Nat.zero_lt_one,and_self,wfA,Vp]) rfl ?_
      by_cases hto:to=[]
      ·have d1:decide ((0:Int)<(to.length:Int))=false:=decide_eq_false (by rw [hto];simp);rw [if_pos hto] at hNx
       repeat (first|(with_reducible first|refine aA.up ?_|refine fun (K:AK) hK=> ?_|refine wD ?_|refine ae (by decide) ?_|(refine hK _ ?_;clear hK K))|simp only [go_sem,eLr,gZ,W5,W6,sQ,d1,gQ,eL2,Go.undef]|with_reducible refine wA ?_|clear hK K)
       refine vg eW ?_;refine az.mk (k+1) (by omega) (by omega) ?_;rw [hNx];simp only [J5,WE,Wt];refine bo ?_ aj;exact je _ _
      ·have d1:decide ((0:Int)<(to.length:Int))=true:=decide_eq_true (by have:=List.length_pos_iff.2 hto;omega);rw [if_neg hto] at hNx
       repeat (first|(with_reducible first|refine aA.up ?_|refine fun (K:AK) hK=> ?_|refine wD ?_|refine ae (by decide) ?_|(refine hK _ ?_;clear hK K))|simp only [go_sem,eLr,gZ,W5,W6,sQ,d1,gQ,eL2,Go.undef]|with_reducible refine wA ?_|clear hK K)
       repeat (first|(with_reducible first|refine aA.up ?_|refine fun (K:AK) hK=> ?_|refine wD ?_|refine ae (by decide) ?_|(refine hK _ ?_;clear hK K))|simp only [go_sem,eL2,gQ,sR,W5,W6]|with_reducible refine wA ?_|clear hK K)
       refine vg eW ?_;refine az.mk (k+1) (by omega) (by omega) ?_;rw [hNx];simp only [J5,WE,Wt,Wv,List.map_cons,List.map_nil,UC,List.length_cons,List.length_nil]
       refine iI ?_ ?_ aj
       ·exact je _ _
       ·exact ⟨rfl,nc _ _⟩
    ·have hil:k=labs.length:=by replace h2:=bI h2;omega
     rw [hil,List.take_length] at hRi;have eR2:=(DB (aP (aO x)) (bu st) h0 labs hn).1;rw [hRi] at eR2
     rcases hSi:dr (aP (aO x)) (bu st) st.all labs with ⟨al',rs⟩
     rw [hSi] at eR2;simp only [Prod.mk.injEq] at eR2;obtain ⟨eal,ero⟩:=eR2
     have hall:(b6 (aP (aO x)) em (aq (aO x).la) labs st).all=al:=by rw [b6,hSi,eal]
     have hrow:(b6 (aP (aO x)) em (aq (aO x).la) labs st).rows=st.rows++[rs]:=by rw [b6,hSi]
     have hends:(b6 (aP (aO x)) em (aq (aO x).la) labs st).ends=st.ends++[pz em (aq (aO x).la) st]:=by rw [b6]
     rw [hall] at hrun
     ((iterate 6 revert K);refine qN ?_;iterate 4 intro K hK)
     refine bH.part (fun h3=> ?_) (fun h3=> ?_)
     ·rw [if_pos (by replace h3:=bI h3;omega)] at hrun
      ((iterate 4 revert K);refine qN ?_)
      rw [<-hrun];exact bK.cI ⟨bK.v _,bK.v _,bK.v _,trivial⟩
     ·have h256: ¬ 256<al.length:=by replace h3:=bI h3;omega
      rw [if_neg h256] at hrun;have hle:=Ls hr (hmade _ (aZ (d:=[]) hlt));rw [<-bu] at hle
      have hE:pz em (aq (aO x).la) st=(((st.rows.length:Int)==0&&em)||(bu st).any (AG (ei x 0))):=by
       rw [pz,JJ hr,any_eq hle];congr 2;rw [WL,beq_iff_eq,beq_iff_eq];omega
      have eC:(al.map oN).getD st.rows.length []=[.aC 1 (aI (bu st)) (bu st).length]:=by
       have hx:al.getD st.rows.length []=bu st:=by rw [k6,bW hlt];rfl
       rw [Vq,UP,UM (by omega)];rw [Vq,UM (by omega)] at hx;simp only [Option.map_some,Option.getD_some] at hx ⊢;rw [hx];rfl
      have eV:tK x=[.aC 1 ((aB x).map encS) (aB x).length, .aC 1 (cM (aB x).length (j0 x 0)) (aB x).length, .aC 1 (cM (aB x).length (ei x 0)) (aB x).length, .aC 1 (j8 (aB x).length (jZ x 0)) (aB x).length, .v (.bool em), .v (.int .i64 x.kind), .v (.string x.label), .aC 3 (x.kids.map aN) x.kids.length]:=by rw [tK,hEm]
      simp only [eV];obtain ⟨e0,he0⟩: ∃e0,e0=((st.rows.length:Int)==0&&em):=⟨_,rfl⟩
      repeat ((fail_if_success (with_reducible refine bF (i:=19) ?_));first|(with_reducible first|refine aA.up ?_|refine fun (K:AK) hK=> ?_|refine ae (by decide) ?_|(refine hK _ ?_;clear hK K))|simp only [go_sem]|with_reducible refine wA ?_|clear hK K)
      refine yF ⟨gq 132 [(0, .agg [.v (.int .i64 x.kind), .v (.string x.label), .aC 3 (x.kids.map aN) x.kids.length]),(1, .aC 1 (labs.map encS) labs.length),(2, .ptr 0 0 3 0 0),(4, .v (.slice none 0 0)),(5, .v (.slice none 0 0)),(6, .v (.bool false)),(7, .vp [.aC 1 ((aB x).map encS) (aB x).length, .aC 1 (cM (aB x).length (j0 x 0)) (aB x).length, .aC 1 (cM (aB x).length (ei x 0)) (aB x).length, .aC 1 (j8 (aB x).length (jZ x 0)) (aB x).length, .v (.bool em), .v (.int .i64 x.kind), .v (.string x.label), .aC 3 (x.kids.map aN) x.kids.length]),(8, .v (.int .i64 0)),(9, .vec 2 al.length),(10, .vec 3 st.rows.length),(11, .vec 4 st.rows.length),(12, .v (.int .i64 st.rows.length)),(13, .vec 5 labs.length),(16, .v (.bool e0))],[some ⟨25,3,false,[[.v (.int .i64 x.kind), .v (.string x.label), .aC 3 (x.kids.map aN) x.kids.length]]⟩,none,some ⟨79,1,true,al.map oN⟩,some ⟨79,1,true,da (st.rows.map (fh labs))⟩,some ⟨4,1,true,cG st.ends⟩,some ⟨3,1,true,kI ro labs.length⟩], .no⟩ (by kernel_rfl) ?_ ?_
      ·rcases (Bool.eq_false_or_eq_true ((st.rows.length:Int)==0)).symm with hZ|hZ
       ·rw [hZ,Bool.false_and] at he0;subst he0
        ((iterate 4 revert K);refine Hw hZ ?_)
        exact aR aj
       ·rw [hZ,Bool.true_and] at he0;subst he0
        ((iterate 4 revert K);refine Hw hZ ?_)
        exact aR aj
      ·simp only [gq,List.foldl_cons,List.foldl_nil,Wc,List.replicate_zero,go_sem]
       ((iterate 4 revert K);refine qN ?_;iterate 4 intro K hK)
       refine bz (ι:=Nat) 18 (fun j=>[(16, .v (.bool (e0||((bu st).take j).any (AG (ei x 0))))),(17, .v (.int .i64 j))]) (fun j=>(bu st).length - j) (fun j=>j<=(bu st).length) 0 (Nat.zero_le _) ?_ ?_
       ·refine bo ?_ aj
        all_goals first|rfl|simp
       ·intro j hj K hK;have eWj:=ak (k:=j) (by omega)
        repeat (first|(with_reducible first|refine aA.up ?_|refine fun (K:AK) hK=> ?_|refine wD ?_|refine ae (by decide) ?_|(refine hK _ ?_;clear hK K))|simp only [go_sem,eC]|with_reducible refine wA ?_|clear hK K)
        refine bH.part (fun h4=> ?_) (fun h4=> ?_)
        ·have hlj:j<(bu st).length:=by replace h4:=bI h4;omega
         have eN:(aI (bu st)).getD j []=[.v (.int .i64 ((bu st)[j]:Nat))]:=by rw [aI,Vq,UP,UM hlj];rfl
         have eLn:(aI (bu st)).length=(bu st).length:=by rw [aI,Vp]
         have eA:((bu st).take (j+1)).any (AG (ei x 0))=(((bu st).take j).any (AG (ei x 0))||AG (ei x 0) (bu st)[j]):=by rw [WG hlj,List.any_append];simp
         have hpl:=hle _ (List.getElem_mem hlj);generalize hpp:(bu st)[j]=pp at *;generalize hee:(e0||((bu st).take j).any (AG (ei x 0)))=ee at *
         have eA2:(e0||((bu st).take (j+1)).any (AG (ei x 0)))=(ee||AG (ei x 0) pp):=by rw [eA, <- Bool.or_assoc,hee]
         cases ee
         ·by_cases hp0:0<pp
          ·have d1:decide ((0:Int)<(pp:Int))=true:=decide_eq_true (by omega)
           have eW1:IntKind.i64.wrap ((pp:Int) - 1)=((pp - 1:Nat):Int):=by rw [cF (by omega) (by omega)];omega
           have eB:=cR (N:=(aB x).length) (g:=ei x 0) (j:=pp - 1) (by omega)
           have eQ:AG (ei x 0) pp=ei x 0 (pp - 1):=by rw [AG,decide_eq_true hp0,Bool.true_and]
           rw [eQ,Bool.false_or] at eA2
           ((iterate 6 revert K);refine sE h4 ?_;iterate 6 intro K hK)
           refine b8 [] [] (by decide+kernel) (by kernel_rfl) ?_
           repeat (first|(with_reducible first|refine aA.up ?_|refine fun (K:AK) hK=> ?_|refine ae (by decide) ?_|(refine hK _ ?_;clear hK K))|simp only [go_sem,eC,eN,eLn,d1,eW1,eB,h4,Go.undef]|with_reducible refine wA ?_|clear hK K)
           refine vg eWj ?_;refine az.mk (j+1) (by omega) (by omega) ?_;rw [eA2];exact aR aj
          ·have d1:decide ((0:Int)<(pp:Int))=false:=decide_eq_false (by omega)
           have eQ:AG (ei x 0) pp=false:=by rw [AG,decide_eq_false hp0,Bool.false_and]
           rw [eQ,Bool.false_or] at eA2
           ((iterate 6 revert K);refine sE h4 ?_;iterate 6 intro K hK)
           refine b8 [] [] (by decide+kernel) (by kernel_rfl) ?_
           repeat (first|(with_reducible first|refine aA.up ?_|refine fun (K:AK) hK=> ?_|refine ae (by decide) ?_|(refine hK _ ?_;clear hK K))|simp only [go_sem,eC,eN,eLn,d1,h4,Go.undef]|with_reducible refine wA ?_|clear hK K)
           refine vg eWj ?_;refine az.mk (j+1) (by omega) (by omega) ?_;rw [eA2];exact aR aj
         ·rw [Bool.true_or] at eA2
          ((iterate 6 revert K);refine By ?_;iterate 6 intro K hK)
          refine b8 [] [] (by decide+kernel) (by kernel_rfl) ?_
          ((iterate 6 revert K);refine NQ ?_)
          refine vg eWj ?_;refine az.mk (j+1) (by omega) (by omega) ?_;rw [eA2];exact aR aj
        ·have hjl:j=(bu st).length:=by replace h4:=bI h4;omega
         have hEn:pz em (aq (aO x).la) st=(e0||((bu st).take j).any (AG (ei x 0))):=by rw [hE, <- he0,hjl,List.take_length]
         rw [<-hEn]
         repeat ((fail_if_success (with_reducible refine bF (i:=24) ?_));first|(with_reducible first|refine aA.up ?_|refine fun (K:AK) hK=> ?_|refine ae (by decide) ?_|(refine hK _ ?_;clear hK K))|simp only [go_sem]|with_reducible refine wA ?_|clear hK K)
         refine bc (gT 13 5 rfl rfl rfl (by rw [iY (by omega)])) (by kernel_rfl) ?_;simp only [List.set_cons_zero,List.set_cons_succ];rw [rH (by omega)];have eWi:=ak (k:=st.rows.length) (by omega)
         have eT:da (st.rows.map (fh labs))++[[.aC 1 (ro.map encI) labs.length]]=da ((b6 (aP (aO x)) em (aq (aO x).la) labs st).rows.map (fh labs)):=by
          rw [hrow,Wv,da,da,Wv,ero];simp [dc]
         have eD:cG st.ends++[[AV.v (.bool (pz em (aq (aO x).la) st))]]=cG (b6 (aP (aO x)) em (aq (aO x).la) labs st).ends:=by
          rw [hends,cG,cG,Wv];rfl
         have hlen:(b6 (aP (aO x)) em (aq (aO x).la) labs st).rows.length=st.rows.length+1:=by rw [hrow,UC,Wx]
         generalize pz em (aq (aO x).la) st=se at *;obtain ⟨nx,hnx⟩: ∃nx,nx=b6 (aP (aO x)) em (aq (aO x).la) labs st:=⟨_,rfl⟩;have hnok:A0 labs nx:=hnx ▸ pA (aP (aO x)) em (aq (aO x).la) hok hlt (by rw [hall];exact h256);rw [<-hnx] at hrun hlen hall eT eD
         have eEl:(cG st.ends).length=st.rows.length:=by rw [gG,hel]
         repeat (first|(with_reducible first|refine aA.up ?_|refine fun (K:AK) hK=> ?_|refine wD ?_|refine ae (by decide) ?_|(refine hK _ ?_;clear hK K))|simp only [go_sem,eT,eD,eEl,Vp,eWi]|with_reducible refine wA ?_|clear hK K)
         refine az.mk nx ⟨hnok,by rw [hall];exact hmd,by rw [hlen,show 257 - (st.rows.length+1)=256 - st.rows.length by omega];exact hrun⟩ (by rw [hlen];have:=hok.le;omega) ?_;simp only [J5,hall,hlen];refine bo ?_ aj;exact ⟨by rw [eV],je _ _⟩
  ·have hge:st.rows.length=st.all.length:=by have:=hok.le;replace h:=bI h;omega
   rw [show 257 - st.rows.length=(256 - st.rows.length)+1 by omega,mz,if_neg (by omega)] at hrun
   ((iterate 3 revert K);refine qN ?_)
   rw [<-hrun];simp only [mA,hel];exact bK.cI ⟨bK.Au (ob:=⟨79,1,true,da (st.rows.map (fh labs))⟩) rfl rfl (by rw [dN,Vp]) (jW _ _),bK.Au (ob:=⟨4,1,true,cG st.ends⟩) rfl rfl (by rw [gG];exact hel) (mE _ _),bK.v _,trivial⟩
end
def ou (A:pJ):List AV:=[ba A.labs, .aC 1 (da (A.rows.map (fh A.labs))) A.rows.length, .aC 1 (cG A.ends) A.rows.length]
theorem DS (n:Nat) (A:pJ):aV n (ou A)=true:=by simp only [ou,ba,aV,AV.wf,jW,mE,a7,WA]
theorem Hf (l:List Bool) {i:Nat} (h:i<l.length):(cG l).getD i []=[.v (.bool (l.getD i false))]:=by
 rw [cG,Vq,UP,UM h,Vq,UM h];rfl
theorem Ji {A:pJ} (hE:A.ends.length=A.rows.length) (s:Int):ar Tryz.prog 42 [.vp (ou A), .v (.int .i64 s)] (.v (.bool (ep A s))):=by
 simp only [ou,ba]
 by_cases h0:0<=s
 ·obtain ⟨k,rfl⟩: ∃k:Nat,s=k:=⟨s.toNat,by omega⟩;have d0:decide ((0:Int)<=(k:Int))=true:=decide_eq_true h0
  by_cases h1:k<A.rows.length
  ·have d1:decide ((k:Int)<(A.rows.length:Int))=true:=decide_eq_true (by omega);have eG:=Hf A.ends (i:=k) (by omega)
   have eL:(cG A.ends).length=A.rows.length:=by rw [gG,hE]
   have e:ep A k=A.ends.getD k false:=by rw [ep,d0,d1];rfl
   rw [e];refine gE Tryz.func42 Tryz.ntmps42 Tryz.results42 ?_;exact Qa d0 d1 eG eL
  ·have d1:decide ((k:Int)<(A.rows.length:Int))=false:=decide_eq_false (by omega)
   have e:ep A k=false:=by rw [ep,d0,d1];rfl
   rw [e];refine gE Tryz.func42 Tryz.ntmps42 Tryz.results42 ?_;exact P9 d0 d1
 ·have d0:decide ((0:Int)<=s)=false:=decide_eq_false h0
  have e:ep A s=false:=by rw [ep,d0];rfl
  rw [e];refine gE Tryz.func42 Tryz.ntmps42 Tryz.results42 ?_;exact P8 d0
theorem LZ {A:pJ} (LO:Nf A) (s:Int) (l:ByteArray):ar Tryz.prog 41 [.vp (ou A), .v (.int .i64 s), .v (.string l)] (stepT (iK A s l)):=by
 have hfew:=LO.PZ;have hmax:=LO.max;have hF:=JX (iK A s l);simp only [ou,ba]
 by_cases hv:0<=s∧s<A.rows.length
 ·obtain ⟨n,rfl⟩: ∃n:Nat,s=n:=⟨s.toNat,by omega⟩
  have hn:n<A.rows.length:=by omega
  have d0:decide ((0:Int)<=(n:Int))=true:=decide_eq_true (by omega);have d1:decide ((n:Int)<(A.rows.length:Int))=true:=decide_eq_true (by omega)
  have eX:iK A n l=look (A.rows.getD n []) l:=by rw [iK,if_pos hv,Int.toNat_natCast]
  have eT:(da (A.rows.map (fh A.labs))).getD n []=[.aC 1 ((fh A.labs (A.rows.getD n [])).map encI) A.labs.length]:=by
   rw [oY _ (by rw [Vp];exact hn),Wp,dc,Vq,UM hn];rfl
  have eLT:(da (A.rows.map (fh A.labs))).length=A.rows.length:=by rw [dN,Vp]
  have lT:((fh A.labs (A.rows.getD n [])).map encI).length=A.labs.length:=by rw [Vp,dc]
  rw [eX] at hF ⊢;generalize hrv:stepT (look (A.rows.getD n []) l)=rv at hF ⊢
  (refine ar.enter Tryz.func41 rfl (by kernel_rfl) (by kernel_rfl) rfl (by simp only [go_sem,aV,AV.wf,WA,Bool.and_true,Bool.true_and,hF]) (by simp only [go_sem,aV,AV.wf,a7,WA,Bool.and_true,Bool.true_and,hF]) ?_;simp only [Tryz.ntmps41,Tryz.results41,UD,Ux,Nat.reduceAdd,Nat.reduceSub,Wc,List.replicate_zero,List.cons_append,List.nil_append])
  (refine aw ?_;intro K hK)
  refine bz (ι:=Nat) 9 (fun k=>[(8, .v (.int .i64 k))]) (fun k=>A.labs.length - k) (fun k=>k<=A.labs.length∧ ∀(j:Nat) (h:j<A.labs.length),j<k->A.labs[j]=l->look (A.rows.getD n []) l=none) 0 ⟨UE _,fun j _ h=>absurd h (Nat.not_lt_zero _)⟩ ?_ ?_
  ·refine bo ?_ aj
   all_goals rfl
  ·rintro k ⟨hk,hall⟩ K hK;have eW:=ak (k:=k) (by omega)
   (revert K;revert K;refine aw ?_;intro K hK K hK K hK)
   refine bH.part (fun h=> ?_) (fun h=> ?_)
   ·have hlt:k<A.labs.length:=by replace h:=bI h;omega
    have eG:=getD_map encS A.labs k [] hlt
    have hkR:k<(fh A.labs (A.rows.getD n [])).length:=by rw [dc];exact hlt
    have eGk:=H3 (fh A.labs (A.rows.getD n [])) hkR
    have eV:(fh A.labs (A.rows.getD n []))[k]=(match look (A.rows.getD n []) A.labs[k] with|some t=>(t:Int)|none=> -1):=by
     simp only [fh,Wp];cases look (A.rows.getD n []) A.labs[k]<;>rfl
    rw [eV] at eGk;simp only [encS] at eG
    have cont:(A.labs[k]=l->look (A.rows.getD n []) l=none)-> ∀(j:Nat) (h:j<A.labs.length),j<k+1->A.labs[j]=l->look (A.rows.getD n []) l=none:=fun hh j hj hjk e=>by
     rcases Nat.lt_succ_iff_lt_or_eq.1 hjk with q|rfl
     ·exact hall j hj q e
     ·exact hh e
    by_cases he:A.labs[k]=l
    ·have f1:(A.labs[k].toList==l.toList)=true:=by rw [he];simp
     cases hq:look (A.rows.getD n []) A.labs[k] with
     | none=>
      rw [hq] at eGk;simp only at eGk
      repeat (first|(with_reducible first|refine aA.up ?_|refine fun (K:AK) hK=> ?_|(refine hK _ ?_;clear hK K))|simp only [go_sem,d0,d1,eG,h,f1,eT,eLT,eGk,lT,Go.undef]|with_reducible refine wA ?_|clear hK K)
      refine aM eW ?_;exact az.mk (k+1) ⟨hlt,cont fun e=>by rw [<-e];exact hq⟩ (by omega) (by exact aR aj)
     | some t=>
      rw [hq] at eGk;simp only at eGk;have d2:decide ((0:Int)<=(t:Int))=true:=decide_eq_true (by omega);rw [<-he,hq] at hrv
      repeat (first|(with_reducible first|refine aA.up ?_|refine fun (K:AK) hK=> ?_|(refine hK _ ?_;clear hK K))|simp only [go_sem,d0,d1,eG,h,f1,eT,eLT,eGk,lT,d2,Go.undef]|with_reducible refine wA ?_|clear hK K)
      rw [<-hrv];exact jm.of 40 rfl (by simp only [go_sem,Nat.reduceLT,Nat.reduceLeDiff,Nat.reduceEqDiff,WX,WY,and_self])
    ·have f1:(A.labs[k].toList==l.toList)=false:=by
      cases hh:(A.labs[k].toList==l.toList)
      ·rfl
      ·exact absurd (toList_inj.1 hh) he
     repeat (first|(with_reducible first|refine aA.up ?_|refine fun (K:AK) hK=> ?_|(refine hK _ ?_;clear hK K))|simp only [go_sem,d0,d1,eG,h,f1,Go.undef]|with_reducible refine wA ?_|clear hK K)
     refine aM eW ?_;exact az.mk (k+1) ⟨hlt,cont fun e=>absurd e he⟩ (by omega) (by exact aR aj)
   ·have hkn:k=A.labs.length:=by replace h:=bI h;omega
    have hno:look (A.rows.getD n []) l=none:=by
     cases hq:look (A.rows.getD n []) l with
     | none=>rfl
     | some t=>
      have hm:=(LO.row _ (aZ (d:=[]) hn)).1.subset (List.mem_map_of_mem (f:=Prod.fst) (jw hq));obtain ⟨j,hj,e⟩:=List.getElem_of_mem hm;rw [<-hq];exact hall j hj (by omega) e
    rw [hno] at hrv
    ((iterate 3 revert K);refine aw ?_)
    rw [<-hrv];exact jm.of 40 rfl (by simp only [go_sem,Nat.reduceLT,Nat.reduceLeDiff,Nat.reduceEqDiff,WX,WY,and_self])
 ·have eX:iK A s l=none:=by rw [iK,if_neg hv]
  rw [eX];simp only [stepT,Option.getD_none,Option.isSome_none]
  have d:decide ((0:Int)<=s)=false∨(decide ((0:Int)<=s)=true∧decide (s<(A.rows.length:Int))=false):=by
   by_cases q:0<=s
   ·exact .inr ⟨decide_eq_true q,decide_eq_false (by omega)⟩
   ·exact .inl (decide_eq_false q)
  rcases d with d0|⟨d0,d1⟩
  all_goals
   refine gE Tryz.func41 Tryz.ntmps41 Tryz.results41 ?_
   repeat (first|(with_reducible first|refine aA.up ?_|refine fun (K:AK) hK=> ?_|(refine hK _ ?_;clear hK K))|simp only [go_sem]|with_reducible refine wA ?_|clear hK K)
   refine bz (ι:=Nat) 9 (fun k=>[(8, .v (.int .i64 k))]) (fun k=>A.labs.length - k) (fun k=>k<=A.labs.length) 0 (UE _) ?_ ?_
  ·refine bo ?_ aj
   all_goals rfl
  ·intro k hk K hK;have eW:=ak (k:=k) (by omega)
   (revert K;revert K;refine aw ?_;intro K hK K hK K hK)
   refine bH.part (fun h=> ?_) (fun h=> ?_)
   ·have hlt:k<A.labs.length:=by replace h:=bI h;omega
    ((iterate 3 revert K);refine vd d0 ?_)
    refine aM eW ?_;exact az.mk (k+1) hlt (by omega) (by exact aR aj)
   ·((iterate 3 revert K);refine aw ?_)
    exact jm.of 40 rfl (by simp only [go_sem,Nat.reduceLT,Nat.reduceLeDiff,Nat.reduceEqDiff,WX,WY,and_self])
  ·refine bo ?_ aj
   all_goals rfl
  ·intro k hk K hK;have eW:=ak (k:=k) (by omega)
   (revert K;revert K;refine aw ?_;intro K hK K hK K hK)
   refine bH.part (fun h=> ?_) (fun h=> ?_)
   ·have hlt:k<A.labs.length:=by replace h:=bI h;omega
    ((iterate 3 revert K);refine Dj d0 d1 ?_)
    refine aM eW ?_;exact az.mk (k+1) hlt (by omega) (by exact aR aj)
   ·((iterate 3 revert K);refine aw ?_)
    exact jm.of 40 rfl (by simp only [go_sem,Nat.reduceLT,Nat.reduceLeDiff,Nat.reduceEqDiff,WX,WY,and_self])
theorem Jl {A:List Int} {n k:Nat} (hA:A.length=k) (h:k<n):kI (A++[0]) n=kI A n:=by
 subst hA;rw [kI,kI,show n - A.length=(n - (A++[(0:Int)]).length)+1 by rw [UC,Wx];omega,Wc];simp
theorem Ae {l:List Nat} {n:Nat} (h:l.length=n):kI (br l) n=aI l:=by rw [rH (by simpa [br] using h),oZ]
theorem mR (l:List Nat) (a:Nat):br (l++[a])=br l++[(a:Int)]:=by rw [br,Wv];rfl
theorem zj (l:List Nat):(br l).length=l.length:=by simp [br]
theorem u7 (l:List Bool) {i:Nat} (h:i<l.length):(cG l).getD i []=[.v (.bool (l.getD i false))]:=by
 rw [cG,Vq,UP,UM h,Vq,UM h];rfl
theorem LM (ends:List Bool) {i:Nat} (h:i<ends.length):p0 (ends.take (i+1))=p0 (ends.take i)++[if ends.getD i false then 1 else 0]:=by
 rw [p0,p0,WG h,Wv,Vq,UM h];rfl
theorem ND {α:Type} [DecidableEq α]: ∀(keys:List α), ∀x∈(keys.foldl q9 (([]:List α),([]:List Nat))).1,x∈keys:=by
 refine fg (fun x h=>by simp at h) ?_;intro l a ih x hx;rw [List.foldl_append] at hx;simp only [List.foldl_cons,List.foldl_nil,q9] at hx
 split at hx
 ·exact Wn _ (ih x hx)
 ·rcases List.mem_append.1 hx with hx|hx
  ·exact Wn _ (ih x hx)
  ·exact List.mem_append_right _ hx
theorem IU {labs:List ByteArray} {rows:List aU} {ends:List Bool} (hn:rows.length<=1000) (hE:ends.length=rows.length) (hR: ∀r∈rows,iN (r.map Prod.fst)) (hL: ∀r∈rows, ∀l∈r.map Prod.fst,l∈labs) (hs:pc rows) (h0:0<rows.length) (hT: ∀r∈rows, ∀p∈r,p.2<rows.length) (hl:labs.length<=1000) :
  ar Tryz.prog 39 [.aC 1 (da (rows.map (fh labs))) rows.length, .aC 1 (cG ends) rows.length] (.aC 1 (aI (bt rows ends)) rows.length):=by
 have hP:=FE hR hL hs h0 (ends:=ends)
 have hA:aV 0 [AV.aC 1 (da (rows.map (fh labs))) rows.length, .aC 1 (cG ends) rows.length]=true:=by simp only [aV,AV.wf,jW,mE,WA]
 have hF:(AV.aC 1 (aI (bt rows ends)) rows.length).wf 0=true:=by simp only [AV.wf,gp]
 rw [<-hP] at hF ⊢;generalize hrv:AV.aC 1 (aI (nB labs rows (rows.length+1) (p0 ends) 1 true)) rows.length=rv at hF ⊢
 have eT: ∀i,i<rows.length->(da (rows.map (fh labs))).getD i []=[.aC 1 ((fh labs (rows.getD i [])).map encI) labs.length]:=fun i hi=>by
  rw [oY _ (by rw [Vp];exact hi),Wp,dc,Vq,UM hi];rfl
 have eLT:(da (rows.map (fh labs))).length=rows.length:=by rw [dN,Vp]
 have eLE:(cG ends).length=rows.length:=by rw [gG,hE]
 generalize hnn:rows.length=n at *
 (refine ar.mc Tryz.func39 rfl (by kernel_rfl) (by kernel_rfl) rfl hA hF ?_;simp only [Tryz.ntmps39,Tryz.results39,UD,Ux,Nat.reduceAdd,Nat.reduceSub,Wc,List.replicate_zero,List.cons_append,List.nil_append])
 have eZ:=px n
 repeat (first|(with_reducible first|refine aA.up ?_|refine fun (K:AK) hK=> ?_|(refine hK _ ?_;clear hK K))|simp only [go_sem,eZ]|with_reducible refine wA ?_|clear hK K)
 refine aQ (ι:=Nat) 14 (fun i=>[(7, .v (.int .i64 i))]) (fun i=>[some ⟨3,1,true,kI (br (p0 (ends.take i))) n⟩]) (fun i=>n - i) (fun i=>i<=n) 0 (UE _) ?_ ?_
 ·simp only [List.take_zero,p0,WI,br];refine bo ?_ aj
  all_goals rfl
 ·intro i hi K hK;have eW:=ak (k:=i) (by omega)
  (revert K;revert K;refine aw ?_;intro K hK K hK K hK)
  refine bH.part (fun h=> ?_) (fun h=> ?_)
  ·have hlt:i<n:=by replace h:=bI h;omega
   have eE:=u7 ends (i:=i) (by omega);have eP:=LM ends (i:=i) (by omega)
   have lA:(br (p0 (ends.take i))).length=i:=by rw [zj,p0,Vp,List.length_take];omega
   have eL0:(kI (br (p0 (ends.take i))) n).length=n:=iY (by omega);have g0:=my lA hlt;have sQ:=pw 1 lA hlt;have sK:=Jl lA hlt
   cases hb:ends.getD i false
   ·rw [hb] at eE eP
    repeat (first|(with_reducible first|refine aA.up ?_|refine fun (K:AK) hK=> ?_|(refine hK _ ?_;clear hK K))|simp only [go_sem,h,eE,eLE]|with_reducible refine wA ?_|clear hK K)
    refine aM eW ?_;refine az.mk (i+1) (by omega) (by omega) ?_;rw [eP,mR];simp only [Bool.false_eq_true,if_false,Int.natCast_zero];rw [sK];exact aR aj
   ·rw [hb] at eE eP
    repeat (first|(with_reducible first|refine aA.up ?_|refine fun (K:AK) hK=> ?_|(refine hK _ ?_;clear hK K))|simp only [go_sem,h,eE,eLE,eL0,g0,W5,W6,sQ]|with_reducible refine wA ?_|clear hK K)
    refine aM eW ?_;refine az.mk (i+1) (by omega) (by omega) ?_;rw [eP,mR];simp only [if_true];rw [show ((1:Nat):Int)=1 from rfl];exact aR aj
  ·have hin:i=n:=by replace h:=bI h;omega
   have e1:kI (br (p0 (ends.take i))) n=aI (p0 ends):=by
    rw [hin, <- hE,List.take_length];exact Ae (by rw [p0,Vp])
   rw [e1]
   have lP:(aI (p0 ends)).length=n:=by rw [aI,Vp,p0,Vp,hE]
   repeat ((fail_if_success (with_reducible refine bF (i:=8) ?_));first|(with_reducible first|refine aA.up ?_|refine fun (K:AK) hK=> ?_|(refine hK _ ?_;clear hK K))|simp only [go_sem]|with_reducible refine wA ?_|clear hK K)
   refine bc (gT 5 0 rfl rfl rfl lP) (by kernel_rfl) ?_;simp only [Wb,Wa]
   (revert K;revert K;refine aw ?_;intro K hK)
   have hI: ∀part,n=rows.length->((fK labs rows part n).2=(dp rows part n).2∧(fK labs rows part n).1.length=(dp rows part n).1.length):=fun part e=>pt hR hL hs (by omega)
   refine bz (ι:=List Nat×Nat×Nat) 14 (fun y=>[(5, .aC 1 (aI y.1) n),(6, .v (.int .i64 y.2.1)),(8, .v (.int .i64 y.2.2)),(9, .undef),(10, .undef),(11, .undef),(12, .undef),(13, .undef)]) (fun y=>n+1 - y.2.2) (fun y=>y.1.length=n∧y.2.1<=n+1∧y.2.2<=n+1∧AV.aC 1 (aI (nB labs rows (n+1 - y.2.2) y.1 y.2.1 (y.2.2==0))) n=rv) (p0 ends,1,0) ⟨by rw [p0,Vp];exact hE,by show 1<=n+1;omega,UE _,hrv⟩ ?_ ?_
   ·refine bo ?_ aj
    all_goals first|rfl|exact ⟨rfl,rfl⟩|trace_state
   ·rintro ⟨part,many,round⟩ ⟨q1,q2,q3,q4⟩ K hK;simp only at q1 q2 q3 q4;have eW2:=ak (k:=round) (by omega)
    (revert K;revert K;refine aw ?_;intro K hK K hK K hK)
    refine bH.part (fun h2=> ?_) (fun h2=> ?_)
    ·have hrn:round<=n:=by replace h2:=bI h2;omega
     rw [show n+1 - round=(n - round)+1 by omega,nB,hnn] at q4
     repeat (first|(with_reducible first|refine aA.up ?_|refine fun (K:AK) hK=> ?_|(refine hK _ ?_;clear hK K))|simp only [go_sem,eZ]|with_reducible refine wA ?_|clear hK K)
     refine mL (ι:=Nat) 9 79 1 rfl (by decide) 14 (fun i=>[(9, .vec 2 (fK labs rows part i).1.length),(11, .v (.int .i64 i))]) (fun i=>[none,some ⟨3,1,true,kI (br (fK labs rows part i).2) n⟩,some ⟨79,1,true,da (fK labs rows part i).1⟩]) (fun i=>n - i) (fun i=>i<=n) 0 (UE _) ?_ ?_
     ·simp only [fK,List.range_zero,WI,List.foldl_nil,br];refine iI ?_ ?_ aj
      all_goals rfl
     ·intro i hi K hK
      have lPn:(aI part).length=n:=by rw [aI,Vp];exact q1
      have hIi:=pt (part:=part) hR hL hs (n:=i) (by omega);have okI:=gj rows part i
      have l2:(fK labs rows part i).2.length=i:=by rw [hIi.1];exact okI.len
      have l1:(fK labs rows part i).1.length<=i:=by rw [hIi.2];exact okI.le
      have hmem: ∀l∈(fK labs rows part i).1,l.length=labs.length+1:=fun l hl=>by
       obtain ⟨j,_,rfl⟩:=List.mem_map.1 (ND _ l hl);rw [gM,UD,Vp,dc]
      have eS:fK labs rows part (i+1)=q9 (fK labs rows part i) (gM labs rows part i):=by rw [fK,List.range_succ,Wv,List.foldl_append];rfl
      generalize hRR:fK labs rows part i=RR at *;obtain ⟨rr,nn⟩:=RR;simp only at l1 l2 hmem
      ((iterate 5 revert K);refine aw ?_;iterate 6 intro K hK)
      refine bH.part (fun h3=> ?_) (fun h3=> ?_)
      ·have hlt:i<n:=by replace h3:=bI h3;omega
       have eP:(aI part).getD i []=[.v (.int .i64 (part.getD i 0:Nat))]:=by rw [aI,Vq,UP,UM (by omega),Vq,UM (by omega)];rfl
       have eTi:=eT i hlt
       have lT:((fh labs (rows.getD i [])).map encI).length=labs.length:=by rw [Vp,dc]
       have lK:(gM labs rows part i).length=labs.length+1:=by rw [gM,UD,Vp,dc]
       repeat (first|(with_reducible first|refine aA.up ?_|refine fun (K:AK) hK=> ?_|(refine hK _ ?_;clear hK K))|simp only [go_sem,h3,eP,lPn]|with_reducible refine wA ?_|clear hK K)
       refine aQ (ι:=Nat) 14 (fun k=>[(12, .vec 3 (k+1)),(13, .v (.int .i64 k))]) (fun k=>[none,some ⟨3,1,true,kI (br nn) n⟩,some ⟨79,1,true,da rr⟩,some ⟨3,1,true,((gM labs rows part i).take (k+1)).map encI⟩]) (fun k=>labs.length - k) (fun k=>k<=labs.length) 0 (UE _) ?_ ?_
       ·simp only [gM,List.take_succ_cons,List.take_zero,List.map_cons,WI,encI];refine bo ?_ aj
        all_goals first|rfl|exact ⟨rfl,rfl⟩|trace_state
       ·intro k hk K hK;have eWk:=ak (k:=k) (by omega)
        repeat (first|(with_reducible first|refine aA.up ?_|refine fun (K:AK) hK=> ?_|(refine hK _ ?_;clear hK K))|simp only [go_sem,eTi,eLT]|with_reducible refine wA ?_|clear hK K)
        refine bH.part (fun h4=> ?_) (fun h4=> ?_)
        ·have hlk:k<labs.length:=by replace h4:=bI h4;omega
         have hkR:k<(fh labs (rows.getD i [])).length:=by rw [dc];exact hlk
         have eGk:=H3 (fh labs (rows.getD i [])) hkR
         have lTk:(((gM labs rows part i).take (k+1)).map encI).length=k+1:=by rw [Vp,List.length_take];omega
         have eN:((gM labs rows part i).take (k+1)).map encI++[[.v (.int .i64 (if (fh labs (rows.getD i []))[k]<0 then -1 else ((part.getD ((fh labs (rows.getD i []))[k]).toNat 0:Nat):Int)))]]=((gM labs rows part i).take (k+1+1)).map encI:=by
          rw [show (gM labs rows part i).take (k+1+1)=(gM labs rows part i).take (k+1)++[(gM labs rows part i)[k+1]] from WG (by omega),Wv]
          congr 1
          simp only [gM,List.getElem_cons_succ,Wp,List.map_cons,WI,encI]
         have hrng: ¬(fh labs (rows.getD i []))[k]<0->((fh labs (rows.getD i []))[k]).toNat<n:=fun hh=>by
          simp only [fh,Wp] at hh ⊢
          cases hq:look (rows.getD i []) labs[k] with
          | none=>rw [hq] at hh;exact absurd (by decide) hh
          | some t=>
           simp only [Int.toNat_natCast];exact hT _ (aZ (d:=[]) (by omega)) _ (jw hq)
         generalize htt:(fh labs (rows.getD i []))[k]=tt at *
         by_cases ht:tt<0
         ·have d1:decide (tt<0)=true:=decide_eq_true ht;rw [if_pos ht] at eN
          repeat (first|(with_reducible first|refine aA.up ?_|refine fun (K:AK) hK=> ?_|(refine hK _ ?_;clear hK K))|simp only [go_sem,h4,eTi,eLT,eGk,lT,d1,lTk,eN]|with_reducible refine wA ?_|clear hK K)
          refine aM eWk ?_;refine az.mk (k+1) (by omega) (by omega) ?_;exact aR aj
         ·have d1:decide (tt<0)=false:=decide_eq_false ht;have hrn2:=hrng ht;have hnat:((tt.toNat:Nat):Int)=tt:=Int.toNat_of_nonneg (by omega);rw [if_neg ht] at eN;generalize tt.toNat=tn at *;subst hnat
          have eP2:(aI part).getD tn []=[.v (.int .i64 (part.getD tn 0:Nat))]:=by rw [aI,Vq,UP,UM (by omega),Vq,UM (by omega)];rfl
          repeat (first|(with_reducible first|refine aA.up ?_|refine fun (K:AK) hK=> ?_|(refine hK _ ?_;clear hK K))|simp only [go_sem,h4,eTi,eLT,eGk,lT,d1,lTk,eN,eP2,lPn]|with_reducible refine wA ?_|clear hK K)
          refine aM eWk ?_;refine az.mk (k+1) (by omega) (by omega) ?_;exact aR aj
        ·have hkl:k=labs.length:=by replace h4:=bI h4;omega
         rw [hkl,show (gM labs rows part i).take (labs.length+1)=gM labs rows part i by rw [<-lK,List.take_length]]
         repeat ((fail_if_success (with_reducible refine bF (i:=23) ?_));first|(with_reducible first|refine aA.up ?_|refine fun (K:AK) hK=> ?_|(refine hK _ ?_;clear hK K))|simp only [go_sem]|with_reducible refine wA ?_|clear hK K)
         refine bc (gT 12 3 rfl rfl rfl (by rw [Vp,lK])) (by kernel_rfl) ?_;simp only [Wb,Wa];have AT:=GL rr (gM labs rows part i) (by omega) (fun l hl=>by have:=hmem l hl;omega) (by omega);rw [Nt] at AT;rw [lK] at AT;rw [q9] at eS;simp only at eS
         have lN:(br nn).length=i:=by rw [zj];exact l2
         have eL0:(kI (br nn) n).length=n:=iY (by omega);have g0:=my lN hlt;have sQ:=fun v=>pw v lN hlt;have gQ:=fun u=>xY (n:=n) u lN;have sR:=fun u v=>tP (n:=n) u v lN;have eL2: ∀v:Int,(kI (br nn++[v]) n).length=n:=fun v=>iY (by rw [UC,Wx];omega);have eWi:=ak (k:=i) (by omega)
         ((iterate 7 revert K);refine aw ?_;iterate 8 intro K hK)
         cases hp:rr.findIdx? (fun y=>decide (gM labs rows part i=y)) with
         | some j=>
          rw [hp] at AT eS;simp only at AT eS;have d2:decide ((j:Int)<0)=false:=decide_eq_false (by omega);refine ab.J4 AT 8 rfl (by simp only [go_sem,Nat.reduceLT,Nat.reduceLeDiff,Nat.reduceEqDiff,WX,WY,and_self,jW,dN]) rfl ?_
          repeat (first|(with_reducible first|refine aA.up ?_|refine fun (K:AK) hK=> ?_|(refine hK _ ?_;clear hK K))|simp only [go_sem,eL0,g0,W5,W6,sQ,d2,gQ,eL2]|with_reducible refine wA ?_|clear hK K)
          refine aM eWi ?_;refine az.mk (i+1) (by omega) (by omega) ?_;rw [eS,mR];exact aR aj
         | none=>
          rw [hp] at AT eS;simp only at AT eS
          have eLr:da rr++[[AV.aC 1 ((gM labs rows part i).map encI) (labs.length+1)]]=da (rr++[gM labs rows part i]):=by
           rw [da,da,Wv, <- lK];rfl
          refine ab.J4 AT 8 rfl (by simp only [go_sem,Nat.reduceLT,Nat.reduceLeDiff,Nat.reduceEqDiff,WX,WY,and_self,jW,dN]) rfl ?_
          repeat (first|(with_reducible first|refine aA.up ?_|refine fun (K:AK) hK=> ?_|(refine hK _ ?_;clear hK K))|simp only [go_sem,eL0,g0,W5,W6,sQ,gQ,eL2]|with_reducible refine wA ?_|clear hK K)
          refine NL eL2 gQ sR eLr ?_;refine aM eWi ?_;refine az.mk (i+1) (by omega) (by omega) ?_;rw [eS,mR];simp only [UC,UD,Ux];exact aR aj
      ·have hin:i=n:=by replace h3:=bI h3;omega
       rw [hin] at hRR l2;rw [hRR] at q4;simp only at q4;rw [Ae l2]
       have lNN:(aI nn).length=n:=by rw [aI,Vp];exact l2
       repeat ((fail_if_success (with_reducible refine bF (i:=27) ?_));first|(with_reducible first|refine aA.up ?_|refine fun (K:AK) hK=> ?_|(refine hK _ ?_;clear hK K))|simp only [go_sem]|with_reducible refine wA ?_|clear hK K)
       refine bc (gT 10 1 rfl rfl rfl lNN) (by kernel_rfl) ?_;simp only [Wb,Wa]
       have next:(¬(rr.length=many∧(round==0)=false))->AV.aC 1 (aI (nB labs rows (n+1 - (round+1)) nn rr.length (round+1==0))) n=rv:=fun hno=>by
        rw [if_neg hno] at q4;rw [show n+1 - (round+1)=n - round by omega,show (round+1==0)=false by simp];exact q4
       by_cases hm:rr.length=many
       ·have d1:((rr.length:Int)==(many:Int))=true:=by simp [hm]
        by_cases hr0:0<round
        ·have d2:decide ((0:Int)<(round:Int))=true:=decide_eq_true (by omega);rw [if_pos ⟨hm,by simp;omega⟩] at q4
         ((iterate 4 revert K);refine Dj d1 d2 ?_)
         rw [<-q4];exact bK.uK (gp _ _)
        ·have d2:decide ((0:Int)<(round:Int))=false:=decide_eq_false (by omega)
         have q5:=next fun q=>by have:=q.2;simp at this;omega
         ((iterate 4 revert K);refine Dj d1 d2 ?_)
         refine aM eW2 ?_;refine az.mk (nn,rr.length,round+1) ⟨l2,by show rr.length<=n+1;omega,by show round+1<=n+1;omega,q5⟩ (by show n+1 - (round+1)<n+1 - round;omega) ?_;exact aR aj
         all_goals trace_state
       ·have d1:((rr.length:Int)==(many:Int))=false:=by simp [Int.natCast_inj,hm]
        have q5:=next fun q=>hm q.1
        ((iterate 4 revert K);refine vd d1 ?_)
        refine aM eW2 ?_;refine az.mk (nn,rr.length,round+1) ⟨l2,by show rr.length<=n+1;omega,by show round+1<=n+1;omega,q5⟩ (by show n+1 - (round+1)<n+1 - round;omega) ?_;exact aR aj
        all_goals trace_state
    ·have hrn:round=n+1:=by replace h2:=bI h2;omega
     rw [hrn,Nat.sub_self,nB] at q4
     ((iterate 3 revert K);refine aw ?_)
     rw [<-q4];exact bK.uK (gp _ _)
def OY (a b:ByteArray):Bool:=Op.bytesLess a.toList b.toList
theorem Dr {a b:ByteArray}:OY a b=true↔a.data.toList<b.data.toList:=by
 rw [OY,bytesLess_eq,decide_eq_true_eq,ByteArray.toList_eq,ByteArray.toList_eq]
def bX (l:List ByteArray):List ByteArray:=(Go.Lib.compact ((l.map (fun s=>s.data.toList)).mergeSort (fun x y=>decide (x<=y)))).map (fun l=>⟨l.toArray⟩)
theorem B9 (x:Ex):bX (aB x)=bT x:=rfl
theorem jz (l:List ByteArray):iN (bX l):=by
 rw [iN,bX,List.pairwise_map]
 exact (kq _).1.imp fun h=>by simpa using h
theorem gO {l:List ByteArray} {s:ByteArray}:s∈bX l↔s∈l:=by
 rw [bX,List.mem_map]
 constructor
 ·rintro ⟨l,h,rfl⟩
  have:=((kq _).2 l).1 h
  obtain ⟨t,h1,rfl⟩:=List.mem_map.1 this;simpa using h1
 ·intro h;exact ⟨s.data.toList,((kq _).2 _).2 (List.mem_map_of_mem h),by simp⟩
theorem FM (l:List ByteArray):(bX l).length<=l.length:=(lp (jz l)).length_le_of_subset fun _ h=>gO.1 h
theorem FN:bX []=[]:=by
 cases h:bX [] with
 | nil=>rfl
 | cons a l=>
  have:a∈bX []:=by rw [h];exact List.mem_cons_self
  exact absurd (gO.1 this) (by simp)
structure Ki (l:List ByteArray) (s:ByteArray) (k:Nat):Prop where
 le:k<=l.length
 lo: ∀(j:Nat) (h:j<l.length),j<k->OY l[j] s=true
 hi: ∀h:k<l.length,OY l[k] s=false
theorem E6 {L:List ByteArray} {s:ByteArray} {k:Nat} (hk:k<(bX L).length) (e:(bX L)[k]=s):bX L=bX (L++[s]):=by
 refine kH (jz _) (jz _) fun t=> ?_;rw [gO,gO,Wr,Wq];refine ⟨.inl,fun h=> ?_⟩
 rcases h with h|rfl
 ·exact h
 ·rw [<-e];exact gO.1 (VU hk)
theorem Lc {L:List ByteArray} {s:ByteArray} {k:Nat} (h:Ki (bX L) s k) (hne: ∀hk:k<(bX L).length,(bX L)[k]≠s):(bX L).take k++s :: (bX L).drop k=bX (L++[s]):=by
 have R:=jz L
 refine kH ?_ (jz _) fun t=> ?_
 ·rw [iN,List.pairwise_append,List.pairwise_cons]
  have lo: ∀a∈(bX L).take k,a.data.toList<s.data.toList:=fun a ha=>by
   obtain ⟨j,hj,rfl⟩:=List.getElem_of_mem ha;rw [List.length_take] at hj;rw [List.getElem_take];exact Dr.1 (h.lo j (by omega) (by omega))
  have hi: ∀a∈(bX L).drop k,s.data.toList<a.data.toList:=fun a ha=>by
   obtain ⟨j,hj,rfl⟩:=List.getElem_of_mem ha;rw [List.length_drop] at hj;rw [List.getElem_drop]
   have hk:k<(bX L).length:=by omega
   have h1: ¬(bX L)[k].data.toList<s.data.toList:=fun q=>by
    have:=h.hi hk;rw [Dr.2 q] at this;cases this
   have h2:s.data.toList<(bX L)[k].data.toList:=by
    refine Classical.byContradiction fun q=>hne hk ?_
    have:=List.le_antisymm (List.not_lt.1 q) (List.not_lt.1 h1)
    exact ByteArray.ext (Array.toList_inj.1 this)
   cases j with
   | zero=>exact h2
   | succ j=>exact List.lt_trans h2 (List.pairwise_iff_getElem.1 R k (k+(j+1)) hk (by omega) (by omega))
  exact ⟨R.sublist (List.take_sublist _ _),⟨fun a ha=>hi a ha,R.sublist (List.drop_sublist _ _)⟩,fun a ha b hb=>by
   rcases List.mem_cons.1 hb with rfl|hb
   ·exact lo a ha
   ·exact List.lt_trans (lo a ha) (hi b hb)⟩
 ·rw [gO,Wr,Wr,List.mem_cons,Wq]
  have:t∈L↔t∈(bX L).take k∨t∈(bX L).drop k:=by
   rw [<-gO, <- Wr,List.take_append_drop]
  rw [this]
  constructor
  ·rintro (h|h|h)
   ·exact .inl (.inl h)
   ·exact .inr h
   ·exact .inl (.inr h)
  ·rintro ((h|h)|h)
   ·exact .inl h
   ·exact .inr (.inr h)
   ·exact .inr (.inl h)
theorem Dw {rows:List aU}: ∀(f:Nat) {part:List Nat} {many:Nat},(∀s,s<rows.length->part.getD s 0<rows.length)-> ∀s,s<rows.length->(nq rows f part many).getD s 0<rows.length
 | 0,part,many,h=>by rw [nq];exact h
 | f+1,part,many,h=>by
  have hN: ∀s,s<rows.length->(dJ rows part).getD s 0<rows.length:=fun s hs=>Nat.lt_of_lt_of_le (jy rows hs) (mr rows part);rw [nq]
  split
  ·exact hN
  ·exact Dw f hN
theorem FF {rows:List aU} {ends:List Bool} {s:Nat} (hs:s<rows.length):(bt rows ends).getD s 0<rows.length:=by
 have hN: ∀s,s<rows.length->(dJ rows (p0 ends)).getD s 0<rows.length:=fun s hs=>Nat.lt_of_lt_of_le (jy rows hs) (mr rows (p0 ends));rw [bt,show rows.length+2=(rows.length+1)+1 from rfl,nq]
 split
 ·exact hN s hs
 ·exact Dw _ hN s hs
def zH (part order:List Nat) (n:Nat):List Int:=(List.range n).map (fun p=>match iD part order p with
 | some k=>(k:Int)
 | none=> -1)
theorem mq (part order:List Nat) (n:Nat):(zH part order n).length=n:=by simp [zH]
theorem rA {part order:List Nat} {n p:Nat} (h:p<n):(zH part order n)[p]? = some (match iD part order p with
 | some k=>(k:Int)
 | none=> -1):=by rw [zH,List.getElem?_map,List.getElem?_range h];rfl
theorem FI (part order:List Nat) (t x:Nat):iD part (order++[t]) x=match iD part order x with
 | some k=>some k
 | none=>if x=part.getD t 0 then some order.length else none:=by
 rw [iD,List.map_append,List.findIdx?_append];rw [iD]
 cases (order.map (fun s=>part.getD s 0)).findIdx? (fun y=>x==y) with
 | some k=>rfl
 | none=>
  simp only [List.map_cons,List.map_nil,List.findIdx?_cons,List.findIdx?_nil,Option.none_or,Vp]
  by_cases h:x=part.getD t 0
  ·rw [if_pos h,beq_iff_eq.2 h];simp
  ·rw [if_neg h,beq_eq_false_iff_ne.2 h];simp
theorem IK {part order:List Nat} {n t:Nat} (hn:iD part order (part.getD t 0)=none) (hp:part.getD t 0<n):(zH part order n).set (part.getD t 0) (order.length:Int)=zH part (order++[t]) n:=by
 refine List.ext_getElem? fun i=> ?_
 by_cases hi:i<n
 ·rw [rA hi,FI]
  by_cases e:part.getD t 0=i
  ·subst e;rw [List.getElem?_set_self (by rw [mq];exact hi),hn];simp
  ·rw [List.getElem?_set_ne e,rA hi]
   cases iD part order i with
   | some k=>rfl
   | none=>simp only [if_neg (fun q=>e (Eq.symm q))]
 ·rw [UR (by rw [List.length_set,mq];omega),UR (by rw [mq];omega)]
theorem Fx (part:List Nat) (n:Nat):zH part [] n=List.replicate n (-1):=by
 refine List.ext_getElem? fun i=> ?_
 by_cases hi:i<n
 ·rw [rA hi,List.getElem?_replicate,if_pos hi];rfl
 ·rw [UR (by rw [mq];omega),UR (by rw [List.length_replicate];omega)]
def Ca (part:List Nat) (row:aU) (labs:List ByteArray) (order:List Nat):List Nat:=labs.foldl (fun o l=>xX part o (look row l)) order
theorem Ac (part:List Nat) (row:aU) (labs:List ByteArray) (l:ByteArray) (order:List Nat):Ca part row (labs++[l]) order=xX part (Ca part row labs order) (look row l):=by rw [Ca,List.foldl_append];rfl
theorem Oq {part:List Nat} {row:aU} {n:Nat} {order:List Nat} (hn:(order.map (fun s=>part.getD s 0)).Nodup) (hl: ∀s∈order,s<n) (hT: ∀p∈row,p.2<n): ∀labs:List ByteArray,
  ((Ca part row labs order).map (fun s=>part.getD s 0)).Nodup∧(∀s∈Ca part row labs order,s<n)∧ ∃t,Ca part row labs order=order++t:=by
 refine fg ⟨hn,hl,[],by simp [Ca]⟩ ?_;rintro labs l ⟨h1,h2,t,h3⟩;rw [Ac]
 cases hq:look row l with
 | none=>exact ⟨h1,h2,t,h3⟩
 | some u=>
  rw [xX]
  cases hp:iD part (Ca part row labs order) (part.getD u 0) with
  | some k=>exact ⟨h1,h2,t,h3⟩
  | none=>
   refine ⟨?_,fun s hs=> ?_,t++[u],by rw [h3,List.append_assoc]⟩
   ·simp only [List.map_append,List.map_cons,List.map_nil];rw [List.nodup_append];refine ⟨h1,by simp,fun a ha b hb=> ?_⟩;rw [Wq] at hb;rintro rfl;exact (vP part).1 hp (hb ▸ ha)
   ·rcases Wr.1 hs with hs|hs
    ·exact h2 s hs
    ·rw [Wq] at hs;subst hs;exact hT _ (jw hq)
theorem BP (x:Ex): ∀(L:List ByteArray),ay x=true->L.length+(aB x).length<=1000->ar Tryz.prog 68 [.agg (aN x),ba (bX L)] (ba (bX (L++aB x))):=by
 induction x using Ex.ind with
 | h kd s l ih=>
  intro L hr hN;have hRL:=FM L
  have hF:(ba (bX (L++aB (.mk kd s l)))).wf 0=true:=by simp only [ba,AV.wf,a7]
  have hA:aV 0 [AV.agg (aN (.mk kd s l)),ba (bX L)]=true:=by simp only [ba,aV,AV.wf,dA,a7,Bool.and_self]
  by_cases hk:kd=1
  ·subst hk
   have eL:aB (.mk 1 s l)=[s]:=by rw [aB,if_pos rfl]
   rw [eL] at hF hN ⊢;have hT:=fun k (q:k<(bX L).length) (e:(bX L)[k]=s)=>E6 q e;have hI:=fun k (q:Ki (bX L) s k) h=>Lc q h;generalize hrv:ba (bX (L++[s]))=rv at hF ⊢;generalize bX L=m at *;simp only [List.length_append,List.length_singleton] at hN;simp only [aD,ba,Ex.kind,Ex.label,Ex.kids] at hA hrv ⊢
   (refine ar.mc Tryz.func68 rfl (by kernel_rfl) (by kernel_rfl) rfl hA hF ?_;simp only [Tryz.ntmps68,Tryz.results68,List.length_cons,List.length_nil,Nat.reduceAdd,Nat.reduceSub,List.replicate_succ,List.replicate_zero,List.cons_append,List.nil_append])
   (refine Bz ?_;intro K hK K hK)
   refine bz (ι:=Nat) 8 (fun k=>[(5, .v (.int .i64 k))]) (fun k=>m.length - k) (fun k=>k<=m.length∧ ∀(j:Nat) (h:j<m.length),j<k->OY m[j] s=true) 0 ⟨Nat.zero_le _,fun j _ h=>absurd h (Nat.not_lt_zero _)⟩ ?_ ?_
   ·refine bo ?_ aj
    all_goals rfl
   ·rintro k ⟨hk,hlo⟩ K hK;have eW:=ak (k:=k) (by omega)
    have fin: ∀(h:Ki m s k),(∀q:k<m.length,m[k]≠s)->AV.aC 1 ((m.take k).map encS++([AV.v (.string s)] :: (m.drop k).map encS)) (k+(m.length - k+1))=rv:=fun h hne=>by
     have e:=hI k h hne
     have el:(k+(m.length - k+1))=(bX (L++[s])).length:=by rw [<-e];simp;omega
     rw [<-hrv,el, <- e];simp [encS]
    have r1:((m.map encS).drop k).take (m.length - k)=(m.drop k).map encS:=by
     rw [<-List.map_drop];exact List.take_of_length_le (by simp)
    have r2:(m.drop k).length=m.length - k:=by simp
    have r3:(m.map encS).take k=(m.take k).map encS:=by rw [List.map_take]
    have r4:(m.take k).length=k:=by simp;omega
    by_cases d1:k<m.length
    ·have e1:decide ((k:Int)<(m.length:Int))=true:=decide_eq_true (by omega);have eG:=getD_map encS m k [] d1;simp only [encS] at eG
     cases e2:OY m[k] s
     ·have hin:Ki m s k:=⟨hk,hlo,fun _=>e2⟩;have e3:Op.bytesLess m[k].toList s.toList=false:=e2
      by_cases he:m[k]=s
      ·have f1:(m[k].toList==s.toList)=true:=by rw [he];simp
       have hrr:=hT k d1 he
       repeat (first|(with_reducible first|refine aA.up ?_|refine fun (K:AK) hK=> ?_|refine wD ?_|refine ae (by decide) ?_|refine ai (by decide) ?_|(refine hK _ ?_;clear hK K))|simp only [go_sem,e1,eG,e3,f1,Go.undef]|with_reducible refine wA ?_|(refine fS rfl ?_)|clear hK K)
       rw [<-hrv, <- hrr];exact bK.uK (a7 0 _)
      ·have f1:(m[k].toList==s.toList)=false:=by
        cases hh:(m[k].toList==s.toList)
        ·rfl
        ·exact absurd (toList_inj.1 hh) he
       have hf:=fin hin fun _=>he
       repeat ((fail_if_success (with_reducible refine bF (i:=7) ?_));first|(with_reducible first|refine aA.up ?_|refine fun (K:AK) hK=> ?_|refine wD ?_|refine ae (by decide) ?_|refine ai (by decide) ?_|(refine hK _ ?_;clear hK K))|simp only [go_sem,e1,eG,e3,f1,Go.undef]|with_reducible refine wA ?_|(refine fS rfl ?_)|clear hK K)
       refine b8 [2,6] [(5,0)] (by decide+kernel) (by kernel_rfl) ?_
       repeat (first|(with_reducible first|refine aA.up ?_|refine fun (K:AK) hK=> ?_|refine ae (by decide) ?_|refine ai (by decide) ?_|(refine hK _ ?_;clear hK K))|simp only [go_sem,r1,r2,r3,r4,Vp]|with_reducible refine wA ?_|(refine fS rfl ?_)|clear hK K)
       rw [<-hf];exact bK.Au (ob:=⟨9,1,true,(m.take k).map encS++([AV.v (.string s)] :: (m.drop k).map encS)⟩) rfl rfl (by simp;omega) (by rw [ly,a7];exact a7 0 (s :: m.drop k))
     ·have e3:Op.bytesLess m[k].toList s.toList=true:=e2
      repeat (first|(with_reducible first|refine aA.up ?_|refine fun (K:AK) hK=> ?_|refine wD ?_|refine ae (by decide) ?_|refine ai (by decide) ?_|(refine hK _ ?_;clear hK K))|simp only [go_sem,e1,eG,e3,Go.undef]|with_reducible refine wA ?_|(refine fS rfl ?_)|clear hK K)
      refine BA eW ?_
      exact az.mk (k+1) ⟨d1,fun j hj hjk=>by
       rcases Nat.lt_succ_iff_lt_or_eq.1 hjk with q|rfl
       ·exact hlo j hj q
       ·exact e2⟩ (by omega) (by exact aR aj)
    ·have e1:decide ((k:Int)<(m.length:Int))=false:=decide_eq_false (by omega);have hf:=fin ⟨hk,hlo,fun h=>absurd h d1⟩ fun h=>absurd h d1
     repeat ((fail_if_success (with_reducible refine bF (i:=7) ?_));first|(with_reducible first|refine aA.up ?_|refine fun (K:AK) hK=> ?_|refine wD ?_|refine ae (by decide) ?_|refine ai (by decide) ?_|(refine hK _ ?_;clear hK K))|simp only [go_sem,e1,Go.undef]|with_reducible refine wA ?_|(refine fS rfl ?_)|clear hK K)
     refine b8 [2,6] [(5,0)] (by decide+kernel) (by kernel_rfl) ?_
     repeat (first|(with_reducible first|refine aA.up ?_|refine fun (K:AK) hK=> ?_|refine ae (by decide) ?_|refine ai (by decide) ?_|(refine hK _ ?_;clear hK K))|simp only [go_sem,r1,r2,r3,r4,Vp]|with_reducible refine wA ?_|(refine fS rfl ?_)|clear hK K)
     rw [<-hf];exact bK.Au (ob:=⟨9,1,true,(m.take k).map encS++([AV.v (.string s)] :: (m.drop k).map encS)⟩) rfl rfl (by simp;omega) (by rw [ly,a7];exact a7 0 (s :: m.drop k))
  ·have eL:aB (.mk kd s l)=aJ l:=cO hk s l;rw [eL] at hF hN ⊢
   have hlen:l.length<=1000:=by
    have:=(dC hr).1
    simp only [ay,Bool.and_eq_true,decide_eq_true_eq] at hr;have h2:=fV kd s l;have h3:=su l;omega
   simp only [aD,ba,Ex.kind,Ex.label,Ex.kids] at hA ⊢
   have f1:(kd==1)=false:=by simpa using hk
   refine gE Tryz.func68 Tryz.ntmps68 Tryz.results68 ?_
   (refine BA f1 ?_;intro K hK)
   refine bz (ι:=Nat) 8 (fun i=>[(1, .aC 1 ((bX (oF L l i)).map encS) (bX (oF L l i)).length),(7, .v (.int .i64 i))]) (fun i=>l.length - i) (fun i=>i<=l.length) 0 (Nat.zero_le _) ?_ ?_
   ·rw [MP];refine bo ?_ aj
    all_goals rfl
   ·intro i hi K hK;have eW:=ak (k:=i) (by omega)
    (revert K;revert K;refine Bz ?_;intro K hK K hK K hK)
    refine bH.part (fun h=> ?_) (fun h=> ?_)
    ·have hlt:i<l.length:=by replace h:=bI h;omega
     have eG:=getD_map aN l i [] hlt;have C:=ih l[i] (VU hlt) (oF L l i) (ln hr _ (VU hlt)) (Iq hlt hN);rw [sZ hlt] at C;simp only [aD,ba] at C eG
     repeat (first|(with_reducible first|refine aA.up ?_|refine fun (K:AK) hK=> ?_|refine wD ?_|refine ae (by decide) ?_|refine ai (by decide) ?_|(refine hK _ ?_;clear hK K))|simp only [go_sem,h,eG]|with_reducible refine wA ?_|(refine fS rfl ?_)|clear hK K)
     refine ab.one C ?_
     ((iterate 4 revert K);refine BA eW ?_)
     refine az.mk (i+1) (by omega) (by omega) ?_;exact aR aj
    ·have hin:i=l.length:=by replace h:=bI h;omega
     have e:oF L l i=L++aJ l:=by rw [hin,oF,List.take_length]
     rw [e]
     ((iterate 3 revert K);refine Bz ?_)
     exact jm.aC (a7 0 _)
theorem FP (x:Ex) (hr:ay x=true) (h1:(ah x).length<=1000000) (hz: ∀z,z∈ah x->z.kids.length<=1000000∧z.label.size<=1000000000000000):ar Tryz.prog 37 [.agg (aN x)] (ba (bT x)):=by
 have R:=mY x h1 hz;rw [hr] at R;have hn:=qg hr;have C:=BP x [] hr (by simp;omega);rw [List.nil_append,B9,FN] at C;have C2:=C.le (args':=[.agg (aN x), .v (.slice none 0 0)]) (by simp only [aV,AV.wf,dA,Bool.and_self]) (.cons (.refl _) (.cons (.nil 1) .nil));simp only [aD,ba] at *;refine gE Tryz.func37 Tryz.ntmps37 Tryz.results37 ?_
 (refine bq ?_;intro K hK K hK K hK)
 refine ab.one R ?_
 ((iterate 3 revert K);refine bq ?_;intro K hK K hK)
 refine ab.one C2 ?_
 (revert K;revert K;refine bq ?_)
 exact jm.aC (a7 0 _)
noncomputable def Fu (x:Ex):AV:=match jq x (bT x) with
 | .inl A=> .cI [.vp (ou A), .v (.int .i64 0)]
 | .inr e=> .cI [.v (.pointer none), .v (.int .i64 e)]
theorem Ms (x:Ex):(Fu x).wf 0=true:=by
 unfold Fu
 split
 ·simp only [AV.wf,aV,DS,Bool.and_self]
 ·rfl
def om (part order:List Nat) (n:Nat):List (List AV):=(zH part order n).map encI
def I8 (part order:List Nat) (p:Nat):Int:=match iD part order p with
 | some k=>(k:Int)
 | none=> -1
@[go_sem] theorem RV (z:Nat) (part order:List Nat) (n:Nat):bw z (om part order n)=true:=bB _ (fun _=>rfl) _
@[go_sem] theorem tu (part order:List Nat) (n:Nat):(om part order n).length=n:=by rw [om,Vp,mq]
theorem tq {part order:List Nat} {n p:Nat} (h:p<n):(om part order n).getD p []=[.v (.int .i64 (I8 part order p))]:=by
 rw [om,Vq,UP,rA h];rfl
theorem zG {part order:List Nat} {n t:Nat} (hn:iD part order (part.getD t 0)=none) (hp:part.getD t 0<n):(om part order n).set (part.getD t 0) [.v (.int .i64 (order.length:Nat))]=om part (order++[t]) n:=by
 rw [om,om, <- IK hn hp,List.map_set];rfl
theorem Fw (part:List Nat) (n:Nat):kI (List.replicate n (-1)) n=om part [] n:=by rw [rH (by simp),om,Fx]
def tv (x:Ex) (labs:List ByteArray) (c d:AV) (tl:List (Option aa)):List (Option aa):=some ⟨25,3,false,[[.v (.int .i64 x.kind), .v (.string x.label), .aC 3 (x.kids.map aN) x.kids.length]]⟩ :: some ⟨76,3,false,[[.aC 1 (labs.map encS) labs.length,c,d]]⟩ :: tl
theorem o4 (l:List Nat):(aI l).length=l.length:=by rw [aI,Vp]
theorem mb {l:List Nat} {i:Nat} (h:i<l.length):(aI l).getD i []=[.v (.int .i64 ((l.getD i 0:Nat):Int))]:=by
 rw [aI,Vq,UP,UM h,Vq,UM h];rfl
theorem EJ (l:List Nat) (a:Nat):aI (l++[a])=aI l++[[.v (.int .i64 (a:Nat))]]:=by rw [aI,Wv];rfl
theorem LF (x:Ex) (h1:(ah x).length<=1000000) (hz: ∀z,z∈ah x->z.kids.length<=1000000∧z.label.size<=1000000000000000):ar Tryz.prog 10 [.agg (aN x)] (Fu x):=by
 have CN:=mY x h1 hz;have hF:=Ms x
 have hA:aV 0 [AV.agg (aN x)]=true:=by simp only [aV,AV.wf,dA,Bool.and_self]
 have hu:Fu x=(if ay x then (match mB x (bT x) with
  | some st=>if 32<(gb (bT x) st).rows.length then .cI [.v (.pointer none), .v (.int .i64 11)] else .cI [.vp (ou (gb (bT x) st)), .v (.int .i64 0)]
  | none=> .cI [.v (.pointer none), .v (.int .i64 11)]) else .cI [.v (.pointer none), .v (.int .i64 2)]):=by
  unfold Fu jq
  cases ay x
  ·rfl
  ·simp only [if_true]
   cases mB x (bT x) with
   | none=>rfl
   | some st=>
    by_cases h32:32<(gb (bT x) st).rows.length
    ·simp only [if_pos h32]
    ·simp only [if_neg h32]
 rw [hu] at hF ⊢;clear hu
 cases hr:ay x
 ·rw [hr] at CN hF;simp only [Bool.false_eq_true,if_false] at CN hF ⊢;simp only [aD] at *;refine gE Tryz.func10 Tryz.ntmps10 Tryz.results10 ?_
  (refine fI ?_;intro K hK K hK K hK)
  refine ab.one CN ?_
  ((iterate 3 revert K);refine fI ?_)
  (refine jm.of 40 rfl ?_;simp only [go_sem])
 ·have CL:=FP x hr h1 hz;rw [hr] at CN hF;simp only [if_true] at CN hF ⊢;have hln:=xx hr;have hlE:=qg hr;have CS:=Js hr h1 hz (bT x) (iT x) (by omega) (by omega)
  cases hst:mB x (bT x) with
  | none=>
   rw [hst] at CS hF;simp only [mA] at CS;simp only [aD,ba] at *;refine gE Tryz.func10 Tryz.ntmps10 Tryz.results10 ?_
   (refine fI ?_;intro K hK K hK K hK)
   refine ab.one CN ?_
   ((iterate 3 revert K);refine fI ?_;intro K hK K hK)
   refine ab.one CL ?_
   (revert K;revert K;refine fI ?_;intro K hK K hK)
   refine bj.one CS ?_
   (revert K;revert K;refine fI ?_)
   (refine jm.of 40 rfl ?_;simp only [go_sem])
  | some ss=>
   rw [hst] at CS hF;obtain ⟨ho,hl,hw⟩:=x4 (aP (aO x)) (aO x).em (aq (aO x).la) (iT x) hst;obtain ⟨g1,g2,g3⟩:=Jt hr hst;have hmax:=ho.max;have hE:=ho.ends;have hT:=qz ho hl;have hN:=DJ (iT x) ho;have hsub: ∀r∈ss.rows,(r.map Prod.fst).Sublist (bT x):=fun r h=>(ho.row r h).1;have CP:=IU (labs:=bT x) (rows:=ss.rows) (ends:=ss.ends) (by omega) hE (fun r h=>(mS x).sublist (hsub r h)) (fun r h l hl=>(hsub r h).subset hl) (qy (xy hr) ho) g2 hT (by omega);have hpl: ∀s,s<ss.rows.length->(bt ss.rows ss.ends).getD s 0<ss.rows.length:=fun s hs=>FF hs;obtain ⟨qo,ql,qw⟩:=zx (ends:=ss.ends) hT hN g2 (bt ss.rows ss.ends);have hnd:=iT x;have hLd:cp ss.rows ss.ends (bt ss.rows ss.ends)=lV ss.rows ss.ends (bt ss.rows ss.ends) (ss.rows.length+1) q0:=rfl;simp only [mA,hE] at CS;simp only at hF ⊢;generalize hrv:(if 32<(gb (bT x) ss).rows.length then AV.cI [.v (.pointer none), .v (.int .i64 11)] else .cI [.vp (ou (gb (bT x) ss)), .v (.int .i64 0)])=rv at hF ⊢
   have hv1:32<(cp ss.rows ss.ends (bt ss.rows ss.ends)).rows.length->AV.cI [.v (.pointer none), .v (.int .i64 11)]=rv:=fun h=>by rw [<-hrv];exact (if_pos h).symm
   have hv2: ¬ 32<(cp ss.rows ss.ends (bt ss.rows ss.ends)).rows.length->AV.cI [.vp (ou ⟨(cp ss.rows ss.ends (bt ss.rows ss.ends)).rows,(cp ss.rows ss.ends (bt ss.rows ss.ends)).ends,bT x⟩), .v (.int .i64 0)]=rv:=fun h=>by rw [<-hrv];exact (if_neg h).symm
   clear hrv;generalize hpart:bt ss.rows ss.ends=part at *;generalize hL:cp ss.rows ss.ends part=L at *;obtain ⟨all,rows,ends⟩:=ss;simp only at *;clear hst hw g1 ho;generalize bT x=labs at *
   have eT: ∀i,i<rows.length->(da (rows.map (fh labs))).getD i []=[.aC 1 ((fh labs (rows.getD i [])).map encI) labs.length]:=fun i hi=>by
    rw [oY _ (by rw [Vp];exact hi),List.getElem_map,dc,Vq,UM hi];rfl
   have eLT:(da (rows.map (fh labs))).length=rows.length:=by rw [dN,Vp]
   have eLE:(cG ends).length=rows.length:=by rw [gG,hE]
   have lP:(aI part).length=rows.length:=by rw [o4];exact g3
   have tV: ∀(r:aU) (k:Nat) (h:k<labs.length),((fh labs r).map encI).getD k []=[.v (.int .i64 (match look r labs[k] with|some t=>(t:Int)|none=> -1))]:=fun r k h=>by
    rw [H3 (fh labs r) (by rw [dc];exact h)];simp only [fh,List.getElem_map];cases look r labs[k]<;>rfl
   have tL: ∀r:aU,((fh labs r).map encI).length=labs.length:=fun r=>by rw [Vp,dc]
   have eP0:=mb (l:=part) (i:=0) (by omega);have hp0:=hpl 0 g2;have eZ:=px rows.length;generalize hnn:rows.length=n at *;simp only [aD,ba] at *
   (refine ar.mc Tryz.func10 rfl (by kernel_rfl) (by kernel_rfl) rfl hA hF ?_;simp only [Tryz.ntmps10,Tryz.results10,UD,Ux,Nat.reduceAdd,Nat.reduceSub,List.replicate_succ,List.replicate_zero,WE,Wt])
   (refine fI ?_;intro K hK K hK K hK)
   refine ab.one CN ?_
   ((iterate 3 revert K);refine fI ?_;intro K hK K hK)
   refine ab.one CL ?_
   (revert K;revert K;refine fI ?_;intro K hK K hK)
   refine bj.one CS ?_
   (revert K;revert K;refine fI ?_;intro K hK K hK)
   refine ab.one CP ?_
   repeat (first|(with_reducible first|refine aA.up ?_|refine fun (K:AK) hK=> ?_|refine wD ?_|refine ae (by decide) ?_|refine ai (by decide) ?_|(refine hK _ ?_;clear hK K))|simp only [go_sem,eZ]|with_reducible refine wA ?_|clear hK K)
   refine aQ (ι:=Nat) 19 (fun i=>[(11, .v (.int .i64 i))]) (fun i=>tv x labs (.v (.slice none 0 0)) (.v (.slice none 0 0)) [some ⟨3,1,true,aI [0]⟩,some ⟨3,1,true,kI (List.replicate i (-1)) n⟩]) (fun i=>n - i) (fun i=>i<=n) 0 (UE _) ?_ ?_
   ·simp only [tv,List.replicate_zero];refine iI ?_ ?_ aj
    all_goals first|rfl|exact ⟨rfl,rfl⟩|trace_state
   ·intro i hi K hK;simp only [tv];have eW:=ak (k:=i) (by omega)
    (revert K;revert K;refine fI ?_;intro K hK K hK K hK)
    refine bH.part (fun h=> ?_) (fun h=> ?_)
    ·have hlt:i<n:=by replace h:=bI h;omega
     have lA:(List.replicate i (-1:Int)).length=i:=List.length_replicate;have eL0:(kI (List.replicate i (-1:Int)) n).length=n:=iY (by omega);have gZ:=my lA hlt;have sQ:=pw (-1) lA hlt;rw [<-List.replicate_succ'] at sQ
     repeat (first|(with_reducible first|refine aA.up ?_|refine fun (K:AK) hK=> ?_|refine wD ?_|refine ae (by decide) ?_|refine ai (by decide) ?_|(refine hK _ ?_;clear hK K))|simp only [go_sem,h,eL0,gZ,W5,W6,sQ]|with_reducible refine wA ?_|clear hK K)
     refine kA eW ?_;refine az.mk (i+1) (by omega) (by omega) ?_;simp only [tv];exact aR aj
    ·have hin:i=n:=by replace h:=bI h;omega
     rw [hin,Fw part];have gN:=tq (part:=part) (order:=[]) hp0;have sN:=zG (part:=part) (order:=[]) (n:=n) (t:=0) rfl hp0;simp only [Ux,Wt,Int.natCast_zero] at sN;have lN:=tu part [] n
     repeat (first|(with_reducible first|refine aA.up ?_|refine fun (K:AK) hK=> ?_|refine wD ?_|refine ae (by decide) ?_|refine ai (by decide) ?_|(refine hK _ ?_;clear hK K))|simp only [go_sem,eP0,lP,gN,sN,W5,W6]|with_reducible refine wA ?_|clear hK K)
     refine aQ (ι:=wv) 19 (fun st=>[(9, .vec 2 st.order.length),(12, .v (.int .i64 st.rows.length)),(13, .undef),(14, .undef)]) (fun st=>tv x labs (.v (.slice none 0 0)) (.v (.slice none 0 0)) [some ⟨3,1,true,aI st.order⟩,some ⟨3,1,true,om part st.order n⟩]) (fun st=>n+1 - st.rows.length) (fun st=>D7 rows part st∧lV rows ends part (n+1 - st.rows.length) st=L) q0 ⟨Dy rows part (by omega),hLd.symm⟩ ?_ ?_
     ·simp only [tv,q0];refine bo ?_ aj
      all_goals first|rfl|exact ⟨rfl,rfl⟩|trace_state
     ·rintro st ⟨hok,hrun⟩ K hK;simp only [tv];have hle:=hok.le;have hlt':=hok.lt;rw [hnn] at hlt';have hol:=kF part hok.nd hlt';have eN0:=o4 st.order
      (revert K;revert K;refine kA eN0 ?_;intro K hK K hK K hK)
      refine bH.part (fun h2=> ?_) (fun h2=> ?_)
      ·have hlt:st.rows.length<st.order.length:=by replace h2:=bI h2;omega
       have hcu:dq st<n:=hlt' _ (aZ hlt);rw [show n+1 - st.rows.length=(n - st.rows.length)+1 by omega,lV,if_pos hlt] at hrun;have hrow:=hT _ (aZ (d:=[]) (show dq st<rows.length by omega));have FO:=Oq (part:=part) (row:=rows.getD (dq st) []) hok.nd hlt' hrow;have hfin:=LY (row:=rows.getD (dq st) []) part st.order hnd (hsub _ (aZ (d:=[]) (show dq st<rows.length by omega)))
       ((iterate 3 revert K);refine kA h2 ?_;intro K hK K hK K hK)
       refine aQ (ι:=Nat) 19 (fun k=>[(9, .vec 2 (Ca part (rows.getD (dq st) []) (labs.take k) st.order).length),(13, .v (.int .i64 k)),(14, .undef)]) (fun k=>tv x labs (.v (.slice none 0 0)) (.v (.slice none 0 0)) [some ⟨3,1,true,aI (Ca part (rows.getD (dq st) []) (labs.take k) st.order)⟩,some ⟨3,1,true,om part (Ca part (rows.getD (dq st) []) (labs.take k) st.order) n⟩]) (fun k=>labs.length - k) (fun k=>k<=labs.length) 0 (UE _) ?_ ?_
       ·simp only [tv,List.take_zero,Ca,List.foldl_nil];refine bo ?_ aj
        all_goals first|rfl|exact ⟨rfl,rfl⟩|trace_state
       ·intro k hk K hK;simp only [tv];have eWk:=ak (k:=k) (by omega);obtain ⟨f1,f2,t0,f3⟩:=FO (labs.take k);have hol2:=kF part f1 f2
        ((iterate 4 revert K);refine fI ?_;iterate 5 intro K hK)
        refine bH.part (fun h3=> ?_) (fun h3=> ?_)
        ·have hlk:k<labs.length:=by replace h3:=bI h3;omega
         have hS:=Ac part (rows.getD (dq st) []) (labs.take k) labs[k] st.order;rw [<-WG hlk] at hS;have eV:=tV (rows.getD (dq st) []) k hlk;have eTq:=eT _ hcu;have eLq:=tL (rows.getD (dq st) [])
         have hcq:(Ca part (rows.getD (dq st) []) (labs.take k) st.order).getD st.rows.length 0=dq st:=by rw [f3,bW hlt];rfl
         generalize hoo:Ca part (rows.getD (dq st) []) (labs.take k) st.order=oo at *
         have hlo:st.rows.length<oo.length:=by rw [f3,UC];omega
         have eO:=mb hlo;rw [hcq] at eO;have lO:=o4 oo;have lNo:=tu part oo n
         cases hq:look (rows.getD (dq st) []) labs[k] with
         | none=>
          rw [hq] at eV hS;simp only at eV;rw [xX] at hS
          repeat (first|(with_reducible first|refine aA.up ?_|refine fun (K:AK) hK=> ?_|refine wD ?_|refine ae (by decide) ?_|refine ai (by decide) ?_|(refine hK _ ?_;clear hK K))|simp only [go_sem,h3,eO,lO,eTq,eLT,eLq,eV]|with_reducible refine wA ?_|clear hK K)
          refine NK ?_;refine kA eWk ?_;refine az.mk (k+1) (by omega) (by omega) ?_;simp only [tv,hS];exact aR aj
          all_goals first|rfl|exact ⟨rfl,rfl⟩|trace_state
         | some t=>
          rw [hq] at eV hS;simp only at eV;have htn:t<n:=hrow _ (jw hq);have ePt:=mb (l:=part) (i:=t) (by omega);have hpt:=hpl t htn;have gNt:=tq (part:=part) (order:=oo) hpt;have d0:decide ((0:Int)<=(t:Int))=true:=decide_eq_true (by omega);rw [xX] at hS
          cases hp:iD part oo (part.getD t 0) with
          | some j=>
           rw [hp] at hS;simp only at hS;rw [I8,hp] at gNt;simp only at gNt;have d1:decide ((j:Int)<0)=false:=decide_eq_false (by omega)
           repeat (first|(with_reducible first|refine aA.up ?_|refine fun (K:AK) hK=> ?_|refine wD ?_|refine ae (by decide) ?_|refine ai (by decide) ?_|(refine hK _ ?_;clear hK K))|simp only [go_sem,h3,eO,lO,eTq,eLT,eLq,eV]|with_reducible refine wA ?_|clear hK K)
           repeat (first|(with_reducible first|refine aA.up ?_|refine fun (K:AK) hK=> ?_|refine wD ?_|refine ae (by decide) ?_|refine ai (by decide) ?_|(refine hK _ ?_;clear hK K))|simp only [go_sem,d0,d1,ePt,lP,gNt,lNo,Go.undef]|with_reducible refine wA ?_|clear hK K)
           refine kA eWk ?_;refine az.mk (k+1) (by omega) (by omega) ?_;simp only [tv,hS];exact aR aj
           all_goals first|rfl|exact ⟨rfl,rfl⟩|trace_state
          | none=>
           rw [hp] at hS;simp only at hS;have sNt:=zG hp hpt;rw [I8,hp] at gNt;simp only at gNt
           repeat (first|(with_reducible first|refine aA.up ?_|refine fun (K:AK) hK=> ?_|refine wD ?_|refine ae (by decide) ?_|refine ai (by decide) ?_|(refine hK _ ?_;clear hK K))|simp only [go_sem,h3,eO,lO,eTq,eLT,eLq,eV]|with_reducible refine wA ?_|clear hK K)
           repeat (first|(with_reducible first|refine aA.up ?_|refine fun (K:AK) hK=> ?_|refine wD ?_|refine ae (by decide) ?_|refine ai (by decide) ?_|(refine hK _ ?_;clear hK K))|simp only [go_sem,d0,ePt,lP,gNt,lNo,sNt,W5,W6,Go.undef]|with_reducible refine wA ?_|clear hK K)
           refine kA eWk ?_;refine az.mk (k+1) (by omega) (by omega) ?_;simp only [tv,hS,EJ,UC,Wx];exact aR aj
           all_goals first|rfl|exact ⟨rfl,rfl⟩|trace_state
        ·have hkl:k=labs.length:=by replace h3:=bI h3;omega
         have hfk:Ca part (rows.getD (dq st) []) (labs.take k) st.order=(dQ rows ends part st).order:=by
          rw [hkl,Xi];exact hfin
         have hnr:(dQ rows ends part st).rows.length=st.rows.length+1:=by rw [dQ];simp only [UC,Wx]
         have hnok:=ph rows ends part (by rw [hnn];exact hT) hok hlt;rw [hfk];generalize dQ rows ends part st=st2 at *;have eW2:=ak (k:=st.rows.length) (by omega)
         ((iterate 5 revert K);refine fI ?_)
         refine kA eW2 ?_
         refine az.mk st2 ⟨hnok, ?_⟩ ?_ ?_
         ·rw [hnr,show n+1 - (st.rows.length+1)=n - st.rows.length by omega];exact hrun
         ·show n+1 - st2.rows.length<n+1 - st.rows.length;omega
         ·simp only [tv,hnr];exact aR aj
          all_goals first|rfl|exact ⟨rfl,rfl⟩|trace_state
      ·have hge: ¬st.rows.length<st.order.length:=by replace h2:=bI h2;omega
       rw [show n+1 - st.rows.length=(n - st.rows.length)+1 by omega,lV,if_neg hge] at hrun
       have hlo:st.order.length=L.rows.length:=by rw [ql,hrun]
       rw [hrun] at hok hol hlt' ⊢;have hlLn:L.order.length=L.rows.length:=ql.symm;rw [hlLn] at hol;clear hrun hlo hge h2 hle eN0;have eN0:=o4 L.order
       ((iterate 3 revert K);refine MG eN0 hlLn ?_;intro K hK)
       refine bH.part (fun h2=> ?_) (fun h2=> ?_)
       ·have h32:32<L.rows.length:=by replace h2:=bI h2;omega
        have hrv:=hv1 h32
        (revert K;refine fI ?_)
        rw [<-hrv];exact bK.cI ⟨bK.v _,bK.v _,trivial⟩
       ·have h32: ¬ 32<L.rows.length:=by replace h2:=bI h2;omega
        have hrv:=hv2 h32
        have hrow: ∀i (h:i<L.rows.length), ∀k (hk:k<labs.length), ∀(t:Option Nat),look (rows.getD (L.order.getD i 0) []) labs[k]=t->(fh labs (L.rows.getD i []))[k]? = some (match t with|some t=>I8 part L.order (part.getD t 0)|none=> -1):=fun i hi k hk t ht=>by
         rw [F3 (labs:=labs) qo qw hi,UP,fh,UP,UM hk,Option.map_some,Option.map_some,ht]
         cases t with
         | none=>rfl
         | some t=>
          simp only [show ¬((t:Int)<0) by omega,if_false,Int.toNat_natCast,I8];cases iD part L.order (part.getD t 0)<;>rfl
        repeat ((fail_if_success (with_reducible refine bF (i:=27) ?_));first|(with_reducible first|refine aA.up ?_|refine fun (K:AK) hK=> ?_|refine ae (by decide) ?_|refine ai (by decide) ?_|(refine hK _ ?_;clear hK K))|simp only [go_sem]|with_reducible refine wA ?_|clear hK K)
        refine bc (dD (k:=1) (i:=0) (j:=1) 79 1 (by decide) rfl (W9 _) rfl rfl) (by kernel_rfl) ?_;simp only [Wb,Wa,UD,Ux,Nat.reduceAdd,WE,Wt];refine bc (dD (k:=1) (i:=0) (j:=2) 4 1 (by decide) rfl (W9 _) rfl rfl) (by kernel_rfl) ?_;simp only [Wb,Wa,UD,Ux,Nat.reduceAdd,WE,Wt];have eZm:=px labs.length
        (revert K;revert K;refine fI ?_;intro K hK)
        refine aQ (ι:=Nat) 19 (fun i=>[(13, .undef),(14, .undef),(15, .v (.int .i64 i)),(16, .undef),(17, .undef),(18, .undef)]) (fun i=>tv x labs (.vec 4 i) (.vec 5 i) [some ⟨3,1,true,aI L.order⟩,some ⟨3,1,true,om part L.order n⟩,some ⟨79,1,true,da ((L.rows.take i).map (fh labs))⟩,some ⟨4,1,true,cG (L.ends.take i)⟩]) (fun i=>L.rows.length - i) (fun i=>i<=L.rows.length) 0 (UE _) ?_ ?_
        ·simp only [tv];refine iI ?_ ?_ aj
         all_goals first|rfl|exact ⟨rfl,rfl⟩|trace_state
        ·intro i hi K hK;simp only [tv];have eWi:=ak (k:=i) (by omega)
         (revert K;revert K;refine MG eN0 hlLn ?_;intro K hK K hK K hK)
         refine bH.part (fun h3=> ?_) (fun h3=> ?_)
         ·have hil:i<L.rows.length:=by replace h3:=bI h3;omega
          have hoi:L.order.getD i 0<n:=hlt' _ (aZ (by omega));have eOi:=mb (l:=L.order) (i:=i) (by omega);have eTq:=eT _ hoi;have eLq:=tL (rows.getD (L.order.getD i 0) []);have hqT:=hT _ (aZ (d:=[]) (show L.order.getD i 0<rows.length by omega));have hri:=hrow i hil;have lR:(fh labs (L.rows.getD i [])).length=labs.length:=dc _ _;generalize hRi:fh labs (L.rows.getD i [])=Ri at *
          repeat (first|(with_reducible first|refine aA.up ?_|refine fun (K:AK) hK=> ?_|refine wD ?_|refine ae (by decide) ?_|refine ai (by decide) ?_|(refine hK _ ?_;clear hK K))|simp only [go_sem,eZm]|with_reducible refine wA ?_|clear hK K)
          refine aQ (ι:=Nat) 19 (fun k=>[(17, .v (.int .i64 k)),(18, .undef)]) (fun k=>tv x labs (.vec 4 i) (.vec 5 i) [some ⟨3,1,true,aI L.order⟩,some ⟨3,1,true,om part L.order n⟩,some ⟨79,1,true,da ((L.rows.take i).map (fh labs))⟩,some ⟨4,1,true,cG (L.ends.take i)⟩,some ⟨3,1,true,kI (Ri.take k) labs.length⟩]) (fun k=>labs.length - k) (fun k=>k<=labs.length) 0 (UE _) ?_ ?_
          ·simp only [tv,List.take_zero];refine bo ?_ aj
           all_goals first|rfl|exact ⟨rfl,rfl⟩|trace_state
          ·intro k hk K hK;simp only [tv];have eWk:=ak (k:=k) (by omega)
           have lRk:(Ri.take k).length=k:=by rw [UY];omega
           have eLr:(kI (Ri.take k) labs.length).length=labs.length:=iY (by omega)
           ((iterate 5 revert K);refine kA eLr ?_;iterate 6 intro K hK)
           refine bH.part (fun h4=> ?_) (fun h4=> ?_)
           ·have hlk:k<labs.length:=by replace h4:=bI h4;omega
            have g0:=my (n:=labs.length) lRk hlk;have s0:=pw (n:=labs.length) (-1) lRk hlk;have eL1:(kI (Ri.take k++[-1]) labs.length).length=labs.length:=iY (by rw [UC,Wx];omega);have g1:=xY (n:=labs.length) (-1) lRk;have s1:=fun v=>tP (n:=labs.length) (-1) v lRk;have eV:=tV (rows.getD (L.order.getD i 0) []) k hlk;have hS:Ri.take (k+1)=Ri.take k++Ri[k]?.toList:=List.take_add_one
            cases hq:look (rows.getD (L.order.getD i 0) []) labs[k] with
            | none=>
             rw [hq] at eV;simp only at eV;rw [hri k hlk _ hq] at hS;simp only [Xr] at hS
             repeat (first|(with_reducible first|refine aA.up ?_|refine fun (K:AK) hK=> ?_|refine wD ?_|refine ae (by decide) ?_|refine ai (by decide) ?_|(refine hK _ ?_;clear hK K))|simp only [go_sem,h4,eLr,g0,s0,eL1,W5,W6]|with_reducible refine wA ?_|clear hK K)
             repeat (first|(with_reducible first|refine aA.up ?_|refine fun (K:AK) hK=> ?_|refine wD ?_|refine ae (by decide) ?_|refine ai (by decide) ?_|(refine hK _ ?_;clear hK K))|simp only [go_sem,eOi,eN0,hlLn,h3,eTq,eLT,eLq,eV,h4]|with_reducible refine wA ?_|clear hK K)
             refine kA eWk ?_;refine az.mk (k+1) (by omega) (by omega) ?_;simp only [tv,hS];exact aR aj
             all_goals first|rfl|exact ⟨rfl,rfl⟩|trace_state
            | some t=>
             rw [hq] at eV;simp only at eV;rw [hri k hlk _ hq] at hS;simp only [Xr] at hS
             have htn:t<n:=by have:=hqT _ (jw hq);omega
             have ePt:=mb (l:=part) (i:=t) (by omega);have hpt:=hpl t htn;have gNt:=tq (part:=part) (order:=L.order) hpt;have lNo:=tu part L.order n;have d0:decide ((0:Int)<=(t:Int))=true:=decide_eq_true (by omega)
             repeat (first|(with_reducible first|refine aA.up ?_|refine fun (K:AK) hK=> ?_|refine wD ?_|refine ae (by decide) ?_|refine ai (by decide) ?_|(refine hK _ ?_;clear hK K))|simp only [go_sem,h4,eLr,g0,s0,eL1,W5,W6]|with_reducible refine wA ?_|clear hK K)
             repeat (first|(with_reducible first|refine aA.up ?_|refine fun (K:AK) hK=> ?_|refine wD ?_|refine ae (by decide) ?_|refine ai (by decide) ?_|(refine hK _ ?_;clear hK K))|simp only [go_sem,eOi,eN0,hlLn,h3,eTq,eLT,eLq,eV,h4]|with_reducible refine wA ?_|clear hK K)
             repeat (first|(with_reducible first|refine aA.up ?_|refine fun (K:AK) hK=> ?_|refine wD ?_|refine ae (by decide) ?_|refine ai (by decide) ?_|(refine hK _ ?_;clear hK K))|simp only [go_sem,d0,ePt,lP,gNt,lNo,eL1,g1,s1,W5,W6]|with_reducible refine wA ?_|clear hK K)
             refine kA eWk ?_;refine az.mk (k+1) (by omega) (by omega) ?_;simp only [tv,hS];exact aR aj
             all_goals first|rfl|exact ⟨rfl,rfl⟩|trace_state
           ·have hkl:k=labs.length:=by replace h4:=bI h4;omega
            have eTk:Ri.take k=Ri:=by rw [hkl, <- lR,Xi]
            rw [eTk,rH lR]
            have lRm:(Ri.map encI).length=labs.length:=by rw [Vp,lR]
            repeat ((fail_if_success (with_reducible refine bF (i:=38) ?_));first|(with_reducible first|refine aA.up ?_|refine fun (K:AK) hK=> ?_|refine ae (by decide) ?_|refine ai (by decide) ?_|(refine hK _ ?_;clear hK K))|simp only [go_sem]|with_reducible refine wA ?_|clear hK K)
            refine bc (gT 16 6 rfl rfl rfl lRm) (by kernel_rfl) ?_;simp only [Wb,Wa];have eEi:=u7 ends (i:=L.order.getD i 0) (by omega)
            have eLi:da ((L.rows.take i).map (fh labs))++[[AV.aC 1 (Ri.map encI) labs.length]]=da ((L.rows.take (i+1)).map (fh labs)):=by
             rw [WG hil,Wv,da,da,Wv, <- lR, <- hRi,Vq,UM hil];rfl
            have hLe:L.ends.length=L.rows.length:=qo.ends
            have eEn:cG (L.ends.take i)++[[AV.v (.bool (ends.getD (L.order.getD i 0) false))]]=cG (L.ends.take (i+1)):=by
             rw [<-qw.Br i hil,WG (show i<L.ends.length by omega),cG,cG,Wv,Vq,UM (show i<L.ends.length by omega)];rfl
            have lLi:(da ((L.rows.take i).map (fh labs))).length=i:=by rw [dN,Vp,UY];omega
            have lEi:(cG (L.ends.take i)).length=i:=by rw [gG,UY];omega
            repeat ((fail_if_success (with_reducible refine bF (i:=39) ?_));first|(with_reducible first|refine aA.up ?_|refine fun (K:AK) hK=> ?_|refine ae (by decide) ?_|refine ai (by decide) ?_|(refine hK _ ?_;clear hK K))|simp only [go_sem,eLi,lLi]|with_reducible refine wA ?_|clear hK K)
            refine b8 [13,16] [] (by decide+kernel) (by kernel_rfl) ?_
            repeat (first|(with_reducible first|refine aA.up ?_|refine fun (K:AK) hK=> ?_|refine ae (by decide) ?_|refine ai (by decide) ?_|(refine hK _ ?_;clear hK K))|simp only [go_sem,eOi,eN0,hlLn,h3,eEi,eLE,eEn,lEi]|with_reducible refine wA ?_|clear hK K)
            refine kA eWi ?_;refine az.mk (i+1) (by omega) (by omega) ?_;simp only [tv];exact aR aj
            all_goals first|rfl|exact ⟨rfl,rfl⟩|trace_state
         ·have hin:i=L.rows.length:=by replace h3:=bI h3;omega
          have hLe:L.ends.length=L.rows.length:=qo.ends
          have e1:L.rows.take i=L.rows:=by rw [hin,Xi]
          have e2:L.ends.take i=L.ends:=by rw [hin, <- hLe,Xi]
          rw [e1,e2,hin]
          have l1:(da (L.rows.map (fh labs))).length=L.rows.length:=by rw [dN,Vp]
          have l2:(cG L.ends).length=L.rows.length:=by rw [gG,hLe]
          repeat ((fail_if_success (with_reducible refine bF (i:=40) ?_));first|(with_reducible first|refine aA.up ?_|refine fun (K:AK) hK=> ?_|refine ae (by decide) ?_|refine ai (by decide) ?_|(refine hK _ ?_;clear hK K))|simp only [go_sem]|with_reducible refine wA ?_|clear hK K)
          refine bc (dz (k:=1) (i:=0) (j:=1) (by decide) rfl (W9 _) rfl rfl rfl rfl l1) (by kernel_rfl) ?_;simp only [Wb,Wa];refine bc (dz (k:=1) (i:=0) (j:=2) (by decide) rfl (W9 _) rfl rfl rfl rfl l2) (by kernel_rfl) ?_;simp only [Wb,Wa]
          (revert K;refine fI ?_)
          rw [<-hrv];simp only [ou,ba];refine bK.cI ⟨bK.ptr (ob:=⟨76,3,false,[[.aC 1 (labs.map encS) labs.length, .aC 1 (da (L.rows.map (fh labs))) L.rows.length, .aC 1 (cG L.ends) L.rows.length]]⟩) rfl rfl rfl (Nat.succ_ne_zero 2) ?_,bK.v _,trivial⟩;exact ⟨bK.uK (a7 0 _),bK.uK (jW 0 _),bK.uK (mE 0 _),trivial⟩
end Go.Proofs.YtfflpdekojlnmaaGreatDoor
