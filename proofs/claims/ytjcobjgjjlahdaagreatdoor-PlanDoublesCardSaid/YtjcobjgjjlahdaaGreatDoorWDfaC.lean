/- texts of one claim, one behind the other. -/
import Derived.Test.YtjcobjgjjlahdaaGreatDoorWNfaN
import Derived.Test.YtjcobjgjjlahdaaGreatDoorWDfaA
import Derived.Shelf.Strconv.Itoa3
import Derived.Shelf.Strings.BuilderK
import Derived.Lib.AppendIntMem
import Derived.Test.YtjcobjgjjlahdaaGreatDoorWOrdB
import Derived.Test.YtjcobjgjjlahdaaGreatDoorWChk3
import Derived.Test.YtjcobjgjjlahdaaGreatDoorWEvery
import Derived.Test.YtjcobjgjjlahdaaGreatDoorWVerts
import Derived.Test.YtjcobjgjjlahdaaGreatDoorWAbsZ
set_option linter.unusedSimpArgs false
set_option linter.unusedVariables false
set_option maxRecDepth 100000
set_option maxHeartbeats 16000000
open Bool renaming and_self -> SE, and_true -> R0, true_and -> R3, not_eq_eq_eq_not -> SI, and_eq_true -> Rq, eq_false_or_eq_true -> SO
open List renaming length_append -> QH, length_cons -> QI, length_nil -> QC, cons_append -> SB, nil_append -> SA, getElem?_set_self -> Q1, getElem?_eq_some_iff -> QD, getElem?_set_ne -> Q0, replicate_succ -> SG, replicate_zero -> SH, foldl_cons -> R8, foldl_nil -> Sb, contains_iff_mem -> Tl, getElem?_eq_getElem -> QS, getElem?_toArray -> QU, size_toArray -> Q3, set_cons_zero -> Se, set_cons_succ -> Sd, take_zero -> S0, getD_eq_getElem?_getD -> Rw, length_map -> Rv, map_append -> Ta, map_cons -> Tc, map_nil -> Ti, push_toArray -> Sy, drop_succ_cons -> Tm, drop_zero -> Tn, take_succ_cons -> S4
open Option renaming map_eq_some_iff -> Rk, map_some -> Rb
open Int renaming natCast_inj -> SJ, ofNat_lt -> SK, ofNat_le -> SL
open Array renaming getElem?_eq_getElem -> QR, getElem?_eq_some_iff -> QB
open Nat renaming lt_add_one -> SY, zero_lt_one -> SZ
namespace Go.Proofs.YtjcobjgjjlahdaaGreatDoor
open Go.RowKit
theorem Ej {o:List (Option aa)}: ∀(L:List AV) (n:Nat),(∀c∈L, ∃x,c = .v x)->L.length+2<=n-> ∃p,fl o n L=some (p,L)∧p
 | [],n+1,_,_=>⟨True,rfl,trivial⟩
 | a :: l,n+2,hL,hn=>by
  obtain ⟨x,rfl⟩:=hL a (by simp);obtain ⟨p,h1,h2⟩:=Ej (o:=o) l (n+1) (fun c hc=>hL c (by simp [hc])) (by simp at hn;omega);exact ⟨((AV.v x).wf 0=true)∧p,by rw [fl,h1];rfl,rfl,h2⟩
 | a :: l,0,_,hn=>by simp at hn
 | a :: l,1,_,hn=>by simp at hn
 | [],0,_,hn=>by simp at hn
def uI (x:Ex):cg:=⟨[],List.replicate 25 0#32,0#32,jV x⟩
def iV (x:Ex):cg:={ (lX x (uI x)).1 with fs:=(lX x (uI x)).1.fs.set 0 (lX x (uI x)).2.1,la:=(lX x (uI x)).2.2 }
theorem B4 (x:Ex):(cu x).length<=(aA x).length:=by
 induction x using Ex.ind with
 | h k s l ih=>
  have hl: ∀m:List Ex,(∀y∈m,(cu y).length<=(aA y).length)->(bt m).length<=(bM m).length:=fun m=>by
   induction m with
   | nil=>intro _;simp [bt,bM]
   | cons y m ihm=>
    intro h;rw [bt,bM,QH,QH];have h1:=h y (by simp);have h2:=ihm (fun z hz=>h z (by simp [hz]));omega
  have:=hl l ih
  rw [cu,aA,QI]
  split
  ·simp
  ·omega
theorem EC {x:Ex} (h:aV x=true):(cu x).length<=24:=by
 simp only [aV,Bool.and_eq_true,decide_eq_true_eq] at h
 have:=B4 x;omega
theorem Hk (ai:List ByteArray) (f1 l1:BitVec 32) (rest:List (BitVec 32)) (em:Bool) (hr:rest.length=24) (o:List (Option aa)) (h1:o[1]? = some (some ⟨183,28,false,[.vec 2 ai.length :: aP f1 :: (rest.map aP++[aP l1, .v (.bool em)])]⟩)) (h2:o[2]? = some (some ⟨9,1,true,ai.map encS⟩)) :
  lR o (.dA [.ptr 1 0 28 0 0, .v (.int .i64 0)]) (.dA [.vp (gh ⟨ai,f1 :: rest,l1,em⟩), .v (.int .i64 0)]):=by
 obtain ⟨p,hp,hp'⟩:=Ej (o:=o) (aP f1 :: (rest.map aP++[aP l1, .v (.bool em)])) 50 (fun c hc=>by
  simp only [List.mem_cons,List.mem_append,List.mem_map,List.not_mem_nil,or_false] at hc
  rcases hc with rfl|⟨y,_,rfl⟩|rfl|rfl
  ·exact ⟨_,rfl⟩
  ·exact ⟨_,rfl⟩
  ·exact ⟨_,rfl⟩
  ·exact ⟨_,rfl⟩) (by simp [hr])
 have e1:fW o 50 (.vec 2 ai.length)=some (True∧(ai.map encS).length=ai.length∧dz 0 (ai.map encS)=true, .aE 1 (ai.map encS) ai.length):=by
  rw [fW,h2];simp
 have e2:fl o 51 (.vec 2 ai.length :: aP f1 :: (rest.map aP++[aP l1, .v (.bool em)]))=some ((True∧(ai.map encS).length=ai.length∧dz 0 (ai.map encS)=true)∧p, .aE 1 (ai.map encS) ai.length :: aP f1 :: (rest.map aP++[aP l1, .v (.bool em)])):=by
  rw [fl,e1,hp]
 refine lR.of 54 (p:=((((True∧(ai.map encS).length=ai.length∧dz 0 (ai.map encS)=true)∧p)∧aa.hl ⟨183,28,false,[.vec 2 ai.length :: aP f1 :: (rest.map aP++[aP l1, .v (.bool em)])]⟩=0∧28=28∧0<1)∧(AV.v (.int .i64 0)).wf 0=true∧True)) ?_ ⟨⟨⟨⟨trivial,by simp,aD 0 ai⟩,hp'⟩,rfl,rfl,by decide⟩,rfl,trivial⟩;rw [fW,fl,fW,h1];simp only [List.getD_cons_zero,e2]
 rfl
theorem Ln (x:Ex) (ho:x.ok):ah Tryz.prog 112 [.agg (bn x)] (if aV x then .dA [.vp (gh (iV x)), .v (.int .i64 0)] else .dA [.v (.pointer none), .v (.int .i64 2)]):=by
 have R:=rU x ho;have E:=zH x ho
 cases hr:aV x
 ·rw [hr] at R;simp only [Bool.false_eq_true,if_false];simp only [bE] at *
  (refine ah.enter Tryz.func112 rfl (by kernel_rfl) (by kernel_rfl) rfl (by first|rfl|(simp only [go_sem,SE,R0,R3])) (by first|rfl|(simp only [go_sem,SE,R0,R3])) ?_;simp only [Tryz.ntmps112,Tryz.results112,QI,QC,Nat.reduceAdd,Nat.reduceSub,List.replicate_succ,List.replicate_zero,SB,SA])
  repeat (first|(with_reducible first|refine af.up ?_|refine fun (K:AK) hK=> ?_|refine ag (by decide) ?_|(refine hK _ ?_;clear hK K))|simp only [go_sem]|with_reducible refine wA ?_|(refine aI rfl ?_)|(refine aC rfl ?_)|clear hK K)
  refine ae.one R ?_
  repeat (first|(with_reducible first|refine af.up ?_|refine fun (K:AK) hK=> ?_|refine ag (by decide) ?_|(refine hK _ ?_;clear hK K))|simp only [go_sem]|with_reducible refine wA ?_|(refine aI rfl ?_)|(refine aC rfl ?_)|clear hK K)
  (refine lR.of 40 rfl ?_;simp only [go_sem])
 ·rw [hr] at R;simp only [if_true];have hnl:(cu x).length<=24:=EC hr;have P:=JE x ho hr (uI x) (by simp [uI]) (by simp [uI];exact hnl);have B:=lY x (uI x) (by simp [uI]) (by simp [uI];exact hnl);simp only [iV];generalize lX x (uI x)=b at *;simp only [bE] at *
  (refine ah.enter Tryz.func112 rfl (by kernel_rfl) (by kernel_rfl) rfl (by first|rfl|(simp only [go_sem,SE,R0,R3])) (by first|rfl|(simp only [go_sem,SE,R0,R3])) ?_;simp only [Tryz.ntmps112,Tryz.results112,QI,QC,Nat.reduceAdd,Nat.reduceSub,List.replicate_succ,List.replicate_zero,SB,SA])
  repeat (first|(with_reducible first|refine af.up ?_|refine fun (K:AK) hK=> ?_|refine ag (by decide) ?_|(refine hK _ ?_;clear hK K))|simp only [go_sem]|with_reducible refine wA ?_|(refine aI rfl ?_)|(refine aC rfl ?_)|clear hK K)
  refine ae.one R ?_
  repeat (first|(with_reducible first|refine af.up ?_|refine fun (K:AK) hK=> ?_|refine ag (by decide) ?_|(refine hK _ ?_;clear hK K))|simp only [go_sem]|with_reducible refine wA ?_|(refine aI rfl ?_)|(refine aC rfl ?_)|clear hK K)
  refine ae.one E ?_
  repeat ((fail_if_success (with_reducible refine br (i:=4) ?_));first|(with_reducible first|refine af.up ?_|refine fun (K:AK) hK=> ?_|refine ag (by decide) ?_|(refine hK _ ?_;clear hK K))|simp only [go_sem]|with_reducible refine wA ?_|(refine aI rfl ?_)|(refine aC rfl ?_)|clear hK K)
  refine aJ (b7 (k:=1) (i:=0) (j:=0) 9 1 (by decide) rfl (show 0<28 by decide) rfl rfl) (by kernel_rfl) ?_;simp only [QI,QC,Nat.reduceAdd,SB,SA,List.set_cons_zero,List.set_cons_succ]
  repeat ((fail_if_success (with_reducible refine br (i:=5) ?_));first|(with_reducible first|refine af.up ?_|refine fun (K:AK) hK=> ?_|refine ag (by decide) ?_|(refine hK _ ?_;clear hK K))|simp only [go_sem]|with_reducible refine wA ?_|(refine aI rfl ?_)|(refine aC rfl ?_)|clear hK K)
  have wE:bw 2 [.ptr 0 0 28 0 0, .agg [.v (.int .i64 x.kind), .v (.string x.label), .aE 3 (x.kids.map bn) x.kids.length]]=true:=by simp only [bw,AV.wf,dJ,SE,R3];rfl
  refine ae.fr [1,2] P (by decide) rfl ?_ wE ?_ ?_
  ·simp only [bQ,AV.bl,bN _ _ (dJ 0 x.kids)];rfl
  ·intro i ob hi
   match i,hi with
   | 0,hi=>cases hi;rfl
   | 1,hi=>cases hi;rfl
   | i+2,hi=>simp [cg.os] at hi
  simp only [cg.os,cg.row,aP,ig,List.map_cons,List.map_nil,Option.map_some,aa.bl,bR,bQ,AV.bl,uA,sL,QI,QC,List.set_cons_zero,List.set_cons_succ,List.append_nil];have e1:sig [1,2] 3 1=2:=rfl;simp only [Nat.reduceAdd,e1];obtain ⟨⟨ai,fs,la,em⟩,f1,l1⟩:=b
  obtain ⟨f0,rest,rfl⟩: ∃f0 rest,fs=f0 :: rest:=by
   cases fs with
   | nil=>have:=B.len;simp at this
   | cons a r=>exact ⟨a,r,rfl⟩
  have hr24:rest.length=24:=by have:=B.len;simpa using this
  have t24:List.take 24 (rest.map aP++[.v (.int .u32 la.toNat), .v (.bool em)])=rest.map aP:=by rw [List.take_append_of_le_length (by simp [hr24]),List.take_of_length_le (by simp [hr24])]
  have d25:List.drop 25 (rest.map aP++[.v (.int .u32 la.toNat), .v (.bool em)])=[.v (.bool em)]:=by
   rw [show 25=(rest.map aP).length+1 by simp [hr24],List.drop_append];simp
  simp only [List.map_cons,aP,SB]
  repeat ((fail_if_success (with_reducible refine br (i:=5) ?_));first|(with_reducible first|refine af.up ?_|refine fun (K:AK) hK=> ?_|refine ag (by decide) ?_|(refine hK _ ?_;clear hK K))|simp only [go_sem]|with_reducible refine wA ?_|(refine aI rfl ?_)|(refine aC rfl ?_)|clear hK K)
  refine dU [9,12] [(5,1000)] (by decide+kernel) (by kernel_rfl) ?_
  repeat (first|(with_reducible first|refine af.up ?_|refine fun (K:AK) hK=> ?_|refine ag (by decide) ?_|(refine hK _ ?_;clear hK K))|simp only [go_sem,t24,d25]|with_reducible refine wA ?_|(refine aI rfl ?_)|(refine aC rfl ?_)|clear hK K)
  refine Hk ai f1 l1 rest em hr24 _ rfl rfl
structure Jb (x:Ex) (s:cg):Prop where
 ai:s.ai=cu x
 ok:Ja s
 fst: ∀q,(s.fs.getD 0 0#32).getLsbD q=true↔AX x 0 q
 BL: ∀p q,p≠0->((s.fs.getD p 0#32).getLsbD q=true↔CY x 0 p q)
 yP: ∀q,s.la.getLsbD q=true↔AZ x 0 q
 em:s.em=b9 x
theorem wq {x:Ex} (hr:aV x=true):Jb x (iV x):=by
 have hn:=EC hr;have B:=lY x (uI x) (by simp [uI]) (by simp [uI];exact hn)
 have hz: ∀p,(uI x).fs.getD p 0#32=0#32:=fun p=>by
  simp only [uI,List.getD_eq_getElem?_getD,List.getElem?_replicate];split<;>rfl
 have hb:(uI x).ai.length=0:=rfl;have hl:(iV x).ai=cu x:=B.ai
 have hlen:(iV x).fs.length=25:=by simp only [iV,List.length_set];exact B.len
 have h0: ∀q,((iV x).fs.getD 0 0#32).getLsbD q=true↔AX x 0 q:=fun q=>by
  simp only [iV];rw [nf (by rw [B.len];decide),if_pos rfl,B.fst,hb]
 have hp: ∀p q,p≠0->(((iV x).fs.getD p 0#32).getLsbD q=true↔CY x 0 p q):=fun p q hp=>by
  simp only [iV];rw [nf (by rw [B.len];decide),if_neg hp,B.BL,hb,hz];simp
 have hla: ∀q,(iV x).la.getLsbD q=true↔AZ x 0 q:=fun q=>by
  have:=B.yP q;rw [hb] at this;exact this
 refine ⟨hl,⟨hlen,by rw [hl];exact hn,fun p q h=> ?_,fun q h=> ?_⟩,h0,hp,hla, ?_⟩
 ·rw [hl]
  by_cases e:p=0
  ·subst e;have:=rD x ((h0 q).1 h);omega
  ·have:=(AW x ((hp p q e).1 h)).2;omega
 ·rw [hl];have:=kz x ((hla q).1 h);omega
 ·show (lX x (uI x)).1.em=_;rw [B.em];simp [uI,jV,hr]
def pR (l:List Nat):List Int:=l.map (fun (p:Nat)=>(p:Int))
theorem BH (l:List Nat):az l=(pR l).map encI:=by rw [az,pR,List.map_map];rfl
theorem r9 (l:List Nat):(pR l).length=l.length:=by rw [pR,List.length_map]
def PY (a b:List Nat):Bool:=a.any (fun p=>b.any (fun q=>(q:Int)==(p:Int)))
def cV (s:cg) (cur:List Nat) (lab:ByteArray):List Nat:=ay (k9 s (jI s (pR cur)) lab)
structure FP where
 rows:List bL
 ends:List Bool
 ai:List ByteArray
noncomputable def sU (x:Ex) (ai:List ByteArray):Option oD:=sT (cV (iV x)) (iV x).em (ay (iV x).la) ai
def jq (ai:List ByteArray) (st:oD):FP:=⟨(iK st.rows st.ends (fA st.rows st.ends)).rows,(iK st.rows st.ends (fA st.rows st.ends)).ends,ai⟩
noncomputable def zQ (x:Ex) (ai:List ByteArray):FP ⊕ Int:=
 if aV x then match sU x ai with
  | some st=>if 32<(jq ai st).rows.length then .inr 11 else .inl (jq ai st)
  | none=> .inr 11
 else .inr 2
structure Pg (A:FP):Prop where
 pos:1<=A.rows.length
 max:A.rows.length<=32
 ends:A.ends.length=A.rows.length
 row: ∀r∈A.rows,(r.map Prod.fst).Sublist A.ai∧ ∀p∈r,p.2<A.rows.length
theorem Cx {ai:List ByteArray} {st:oD} (ho:C5 ai st) (hl:st.rows.length=st.all.length): ∀r∈st.rows, ∀p∈r,p.2<st.rows.length:=fun r hr p hp=>by rw [hl];exact (ho.row r hr).2 p hp
theorem Cw {ai:List ByteArray} (hs: ∀l∈ai,32∉l.data.toList) {st:oD} (ho:C5 ai st):Ad st.rows:=fun r hr p hp=>hs _ ((ho.row r hr).1.subset (List.mem_map_of_mem hp))
structure Pf (x:Ex) (A:FP):Prop extends Pg A where
 PG: ∀w,El A.rows A.ends 0 w=GI x w
 alive: ∀s,s<A.rows.length-> ∃w,El A.rows A.ends s w=true
def DV:Go.Shelf.Ren:=⟨fun|169=>192|n=>n,fun|70=>227|9=>9|0=>0|72=>229|37=>145|127=>262|3=>3|5=>5|n=>n,fun n=>n⟩
theorem Gy:Lays.n169 Tryz.prog DV:={
 mixed:=by kernel_rfl
 f169:=Tryz.func192
 t0:=by kernel_rfl
 a0:=fun w=>by kernel_rfl
 z0:=fun w=>by kernel_rfl
 v0:=fun w=>by kernel_rfl
 t3:=by kernel_rfl
 a3:=fun w=>by kernel_rfl
 z3:=fun w=>by kernel_rfl
 v3:=fun w=>by kernel_rfl
 t9:=by kernel_rfl
 a9:=fun w=>by kernel_rfl
 z9:=fun w=>by kernel_rfl
 v9:=fun w=>by kernel_rfl
 t37:=by kernel_rfl
 a37:=fun w=>by kernel_rfl
 z37:=fun w=>by kernel_rfl
 v37:=fun w=>by kernel_rfl
 t70:=by kernel_rfl
 a70:=fun w=>by kernel_rfl
 z70:=fun w=>by kernel_rfl
 v70:=fun w=>by kernel_rfl
 t72:=by kernel_rfl
 a72:=fun w=>by kernel_rfl
 z72:=fun w=>by kernel_rfl
 v72:=fun w=>by kernel_rfl
 t127:=by kernel_rfl
 a127:=fun w=>by kernel_rfl
 z127:=fun w=>by kernel_rfl
 v127:=fun w=>by kernel_rfl }
def z6:Go.Shelf.Ren:=⟨fun|171=>191|243=>224|246=>240|283=>244|284=>245|285=>246|286=>247|129=>222|317=>252|318=>253|319=>254|320=>255|337=>232|338=>256|n=>n,fun|3=>3|9=>9|2=>2|4=>4|171=>282|0=>0|53=>261|37=>145|5=>5|173=>284|212=>289|51=>179|20=>20|213=>290|46=>121|232=>278|233=>291|n=>n,fun|17=>1|18=>0|19=>2|n=>n⟩
theorem sb:Lays.n171 Tryz.prog z6:={
 mixed:=by kernel_rfl
 f129:=Tryz.func222
 f171:=Tryz.func191
 f243:=Tryz.func224
 f246:=Tryz.func240
 f283:=Tryz.func244
 f284:=Tryz.func245
 f285:=Tryz.func246
 f286:=Tryz.func247
 f317:=Tryz.func252
 f318:=Tryz.func253
 f319:=Tryz.func254
 f320:=Tryz.func255
 f337:=Tryz.func232
 f338:=Tryz.func256
 t0:=by kernel_rfl
 a0:=fun w=>by kernel_rfl
 z0:=fun w=>by kernel_rfl
 v0:=fun w=>by kernel_rfl
 t2:=by kernel_rfl
 a2:=fun w=>by kernel_rfl
 z2:=fun w=>by kernel_rfl
 v2:=fun w=>by kernel_rfl
 t3:=by kernel_rfl
 a3:=fun w=>by kernel_rfl
 z3:=fun w=>by kernel_rfl
 v3:=fun w=>by kernel_rfl
 t4:=by kernel_rfl
 a4:=fun w=>by kernel_rfl
 z4:=fun w=>by kernel_rfl
 v4:=fun w=>by kernel_rfl
 t5:=by kernel_rfl
 a5:=fun w=>by kernel_rfl
 z5:=fun w=>by kernel_rfl
 v5:=fun w=>by kernel_rfl
 t9:=by kernel_rfl
 a9:=fun w=>by kernel_rfl
 z9:=fun w=>by kernel_rfl
 v9:=fun w=>by kernel_rfl
 t20:=by kernel_rfl
 a20:=fun w=>by kernel_rfl
 z20:=fun w=>by kernel_rfl
 v20:=fun w=>by kernel_rfl
 t37:=by kernel_rfl
 a37:=fun w=>by kernel_rfl
 z37:=fun w=>by kernel_rfl
 v37:=fun w=>by kernel_rfl
 t46:=by kernel_rfl
 a46:=fun w=>by kernel_rfl
 z46:=fun w=>by kernel_rfl
 v46:=fun w=>by kernel_rfl
 t51:=by kernel_rfl
 a51:=fun w=>by kernel_rfl
 z51:=fun w=>by kernel_rfl
 v51:=fun w=>by kernel_rfl
 t53:=by kernel_rfl
 a53:=fun w=>by kernel_rfl
 z53:=fun w=>by kernel_rfl
 v53:=fun w=>by kernel_rfl
 t171:=by kernel_rfl
 a171:=fun w=>by kernel_rfl
 z171:=fun w=>by kernel_rfl
 v171:=fun w=>by kernel_rfl
 t173:=by kernel_rfl
 a173:=fun w=>by kernel_rfl
 z173:=fun w=>by kernel_rfl
 v173:=fun w=>by kernel_rfl
 t212:=by kernel_rfl
 a212:=fun w=>by kernel_rfl
 z212:=fun w=>by kernel_rfl
 v212:=fun w=>by kernel_rfl
 t213:=by kernel_rfl
 a213:=fun w=>by kernel_rfl
 z213:=fun w=>by kernel_rfl
 t232:=by kernel_rfl
 a232:=fun w=>by kernel_rfl
 z232:=fun w=>by kernel_rfl
 v232:=fun w=>by kernel_rfl
 t233:=by kernel_rfl
 a233:=fun w=>by kernel_rfl
 z233:=fun w=>by kernel_rfl
 v233:=fun w=>by kernel_rfl
 g17:=by kernel_rfl
 g18:=by kernel_rfl
 g19:=by kernel_rfl }
theorem Et:LaysM.n171 Tryz.prog z6:={ sb with
 i0:=by kernel_rfl
 i2:=by kernel_rfl
 i3:=by kernel_rfl
 i4:=by kernel_rfl
 i5:=by kernel_rfl
 i9:=by kernel_rfl
 i20:=by kernel_rfl
 i37:=by kernel_rfl
 i46:=by kernel_rfl
 i51:=by kernel_rfl
 i53:=by kernel_rfl
 i171:=by kernel_rfl
 i173:=by kernel_rfl
 i212:=by kernel_rfl
 i232:=by kernel_rfl
 i233:=by kernel_rfl
 m17:=by kernel_rfl
 m18:=by kernel_rfl
 m19:=by kernel_rfl }
theorem DR:(Tryz.prog.info? 229).map (·.size)=some 2:=by kernel_rfl
theorem IJ:liesAt Tryz.prog Tryz.prog.depth 229 (2 / Tryz.prog.cellsOf 229) 0 229 1=true:=by kernel_rfl
theorem II:(Tryz.prog.info? 5).map (fun i=>(i.zero,i.size,i.bytes))=some (some (.int .u8 0),1,1):=by kernel_rfl
theorem Jh:Builder.Extra Tryz.prog DV:={ sizeBuilder:=DR,liesBuilder:=IJ,t5:=by kernel_rfl,a5:=fun w=>by kernel_rfl,z5:=fun w=>by kernel_rfl,v5:=fun w=>by kernel_rfl,infoByte:=II,cellsByte:=by kernel_rfl,sizeByte:=by kernel_rfl,neB5:=by decide }
theorem OX:Tryz.prog.underlying 227=some (.pointer 229):=by kernel_rfl
theorem PI:Tryz.prog.underlying 273=some .unsafePointer:=by kernel_rfl
theorem qZ (b:Nat) (w:World) (h0:w.cell? ⟨b,0,none⟩=some (.pointer none)) (hsh:w.shape? b=some (229,2)) (hfz:w.frozen? ⟨b,0,none⟩=false) :
  Calls Tryz.prog 223 #[.pointer (some ⟨b,0,none⟩)] w fun e w'=>e = .returned (.tuple #[])∧w'=w.setCell ⟨b,0,none⟩ (.pointer (some ⟨b,0,none⟩)):=by
 obtain ⟨j,hj,hjs⟩:=Rk.1 DR
 go_enter Tryz.func223,Tryz.ntmps223
 go_wp2
 rw [Lib.run_to_unsafe w ⟨b,0,none⟩ OX PI hj (by rw [hjs];decide) hsh (Nat.zero_lt_succ 1)];simp only [Result.andThen];rw [Oper.upon_value]
 go_wp2
 rw [run_callFunc_extern Tryz.func239 (by kernel_rfl) (by kernel_rfl) (by kernel_rfl) (e:=Extern.AbiNoEscape.same) (by kernel_rfl)];rw [Lib.run_noEscape];simp only [Result.andThen];rw [Oper.upon_value]
 go_wp2
 rw [Lib.run_from_unsafe w ⟨b,0,none⟩ PI OX hj hsh IJ];simp only [Result.andThen];rw [Oper.upon_value]
 go_wp2
 go_end0
 exact ⟨rfl,rfl⟩
theorem tv (b:Nat) (w:World) (h0:w.cell? ⟨b,0,none⟩=some (.pointer (some ⟨b,0,none⟩))) :
  Calls Tryz.prog 223 #[.pointer (some ⟨b,0,none⟩)] w fun e w'=>e = .returned (.tuple #[])∧w'=w:=by
 obtain ⟨j,hj,_⟩:=Rk.1 DR
 go_enter Tryz.func223,Tryz.ntmps223
 go_wp2
 rw [Lib.run_neq_ptr_same w _ OX hj]
 go_wp2
 go_end0
 exact ⟨rfl,rfl⟩
abbrev KJ (B b:Nat) (bs:List Value) (w:World):Prop:=Lib.IsBuilderF 229 5 B b bs w
theorem qY (B b:Nat) (bs:List Value) (w:World) (h:KJ B b bs w) :
  Calls Tryz.prog 223 #[.pointer (some ⟨b,0,none⟩)] w fun e w'=>e = .returned (.tuple #[])∧Lib.BuilderAtF 229 5 B b (.pointer (some ⟨b,0,none⟩)) bs w'∧Below B w w':=by
 rcases h with h|h
 ·refine (qZ b w h.cell0 h.shape h.frozen0).mono ?_;rintro e w' ⟨rfl,rfl⟩;exact ⟨rfl,h.used _,(Below.refl B w).setCell (p:=⟨b,0,none⟩) h.1 _⟩
 ·refine (tv b w h.cell0).mono ?_;rintro e w' ⟨rfl,rfl⟩;exact ⟨rfl,h,Below.refl B _⟩
theorem J7:Tryz.prog.underlying 145=some (.slice 5):=by kernel_rfl
theorem Mt:Tryz.prog.underlying 9=some .string:=by kernel_rfl
theorem zD (B b:Nat) (bs:List Value) (s:ByteArray) (w:World) (h:KJ B b bs w) (hlen:bs.length+s.size<=140737488355328) (hBw:B<=w.heap.size) :
  Calls Tryz.prog 190 #[.pointer (some ⟨b,0,none⟩), .string s] w fun e w'=>e = .returned (.tuple #[.int .i64 s.size, .nilIface])∧KJ B b (bs++Lib.strCells s) w'∧Below B w w':=by
 obtain ⟨i0,hi,hz0,hz1,hz2⟩:=info_parts II
 go_enter Tryz.func190,Tryz.ntmps190
 go_wp2_with fail
 refine (qY B b bs _ h).mono ?_;rintro e w1 ⟨rfl,h1,hb1⟩;obtain ⟨hB,v,hbk,hown,hne⟩:=h1;have hlt:b<w1.heap.size:=(Array.getElem?_eq_some_iff.1 hbk).1
 have c0:w1.cell? ⟨b,0,none⟩=some (.pointer (some ⟨b,0,none⟩)):=by rw [Lib.cell_of_heap hbk];rfl
 have c1:w1.cell? ⟨b,1,none⟩=some v:=by rw [Lib.cell_of_heap hbk];rfl
 go_wp2_with (at_builtin;refine Lib.wpList_append_own_stringF _ rfl _ _ 145 9 rfl B 5 i0 J7 Mt hi hz0 hz1 hz2 _ _ _ rfl hown s rfl ?c3 ?c4 ?c5 ?_)
 case c3=>unfold maxLen;omega
 case c4=>omega
 case c5=>have:=hb1.size;omega
 intro v' w2 hown' hgrow _;have hb2:w2.heap[b]? = some (.cells #[.pointer (some ⟨b,0,none⟩),v] 229 (0,0)):=(hgrow.block b hlt (fun e=>hne e.symm)).trans hbk
 have d0:w2.cell? ⟨b,0,none⟩=some (.pointer (some ⟨b,0,none⟩)):=by rw [Lib.cell_of_heap hb2];rfl
 have d1:w2.cell? ⟨b,1,none⟩=some v:=by rw [Lib.cell_of_heap hb2];rfl
 have f1:w2.frozen? ⟨b,1,none⟩=false:=Lib.frozen_of_heap hb2 1
 obtain ⟨ao,n',cap,rfl⟩: ∃ao n' cap,v' = .slice ao n' cap:=by
  rcases hown'.2 with ⟨hv,_⟩|⟨g,cap,cur,fz,hv,_⟩<;>exact ⟨_,_,_,hv⟩
 go_wp2
 go_ret2
 refine ⟨rfl, .inr (Lib.BuilderAtF.put (T:=229) (e:=5) hB hb2 (bs':=bs++Lib.strCells s) (by simpa [Lib.strCells_length] using hown') (by decide)), ?_⟩;exact (hb1.grown hgrow (by have:=hb1.size;omega) (fun k hk=>(hown.lt k hk).1)).setCell (p:=⟨b,1,none⟩) hB _
def KO (n:Nat) (cs:List Value):Prop:=cs=[.int .i64 (n:Nat)]
abbrev Dr (w:World) (l:List Nat) (v:Value):Prop:=ee w 1 KO l v
theorem Cr {w:World} {xs:List Nat} {p:Option Addr} {n cap:Nat} (h:Dr w xs (.slice p n cap)) {k:Nat} (hk:k<xs.length) :
  ∃b o,p=some ⟨b,o,none⟩∧w.cell? ⟨b,o+k,none⟩=some (.int .i64 (xs[k]:Nat)):=by
 obtain ⟨b,o,cs,hp,hr,hc⟩:=ee.at h hk;subst hr;rw [Nat.mul_one] at hc;replace hc:=dO hc;exact ⟨b,o,hp,by simpa using hc 0 _ rfl⟩
theorem BY (l:List Nat) (n:Nat):jo (l++[n])=jo l++(Lib.decDigits n++[32]):=by simp [jo]
theorem Ew (l:List Nat) (hs: ∀n∈l,n<1000):(jo l).length<=4 * l.length:=by
 induction l with
 | nil=>simp [jo]
 | cons a l ih=>
  have h1:=pq a (hs a List.mem_cons_self);have h2:=ih (fun n hn=>hs n (List.mem_cons_of_mem _ hn));simp only [jo,List.flatMap_cons,QH,QI,QC] at *;omega
theorem GS (l:List Nat) (hs: ∀n∈l,n<100) (hl:l.length<=1000000) (v:Value) (w:World) (h1:Dr w l v):Calls Tryz.prog 151 #[v] w (jM w (.string (iJ l))):=by
 obtain ⟨p,c,rfl,hc1,hc2⟩:=h1.shape;unfold maxLen at hc2;have H1:=Lib.hid h1;have HS:=Lib.hid hs;clear h1 hs
 go_enter Tryz.func151,Tryz.ntmps151
 go_wp2_with fail
 go_loopw [8] (fun i wr=> ∃k:Nat,k<=l.length∧i = .int .i64 k∧Below w.heap.size w wr∧KJ w.heap.size w.heap.size (Lib.byteCells (jo (l.take k))) wr) (fun i _=>l.length - (intOf i).toNat)
 case atStart=>exact ⟨0,Nat.zero_le _,rfl,(Below.refl _ w).alloc (Nat.le_refl _) _,by rw [List.take_zero];exact Lib.IsBuilderF.of (Lib.fresh_isBuilder 229 5 w)⟩
 case round=>
  obtain ⟨k,hk,rfl,hb,hI⟩:=hrel;have HB:=Lib.hid hb;have HI:=Lib.hid hI;clear hb hI
  by_cases hlt:k<l.length
  ·obtain ⟨b1,o1,rfl,a0⟩:=Cr (ee.below H1.out HB.out) hlt;have CI:=Lib.hid (Any.strconv_Itoa_small sb l[k] (HS.out _ (List.getElem_mem hlt)) wr)
   have hk1:(jo (l.take k)).length<=4 * k:=by
    have:=Ew (l.take k) (fun n hn=>by have:=HS.out n (List.mem_of_mem_take hn);omega)
    have h2:(l.take k).length<=k:=List.length_take_le _ _;omega
   have hk2:=pq l[k] (by have:=HS.out _ (List.getElem_mem hlt);omega)
   have CW:=Lib.hid (zD w.heap.size w.heap.size (Lib.byteCells (jo (l.take k))) (⟨(Lib.decDigits l[k]).toArray⟩++⟨#[32]⟩) wr HI.out (by
    rw [Lib.byteCells_length]
    have:(⟨(Lib.decDigits l[k]).toArray⟩++⟨#[32]⟩:ByteArray).size=(Lib.decDigits l[k]).length+1:=by simp [ByteArray.size]
    omega) HB.out.size)
   go_wp2_with fail
   refine CI.out.mono ?_;rintro e w1 ⟨rfl,rfl⟩
   go_wp2_with fail
   refine CW.out.mono ?_;rintro e w2 ⟨rfl,hI2,hb2⟩
   go_wp2_with fail
   go_roundw
   case rel=>
    refine ⟨k+1,by omega,by go_num,HB.out.trans hb2, ?_⟩
    have e1:Lib.byteCells (jo (l.take (k+1)))=Lib.byteCells (jo (l.take k))++Lib.strCells (⟨(Lib.decDigits l[k]).toArray⟩++⟨#[32]⟩):=by
     rw [List.take_succ_eq_append_getElem hlt,BY,Lib.byteCells_append,Lib.strCells_eq];simp
    rw [e1];exact hI2
   case measure=>simp [intOf];omega
  ·have hkl:k=l.length:=by omega
   subst hkl
   have hI3:KJ w.heap.size w.heap.size (Lib.byteCells (jo l)) wr:=by have:=HI.out;rwa [List.take_length] at this
   have CT:=Lib.hid (Any.Builder_String_any_k Gy Jh w.heap.size w.heap.size (jo l) wr hI3 HB.out.size)
   go_wp2_with fail
   refine CT.out.mono ?_;rintro e w1 ⟨rfl,_,hb2,_⟩
   go_wp2_with fail
   go_ret
   exact ⟨rfl,HB.out.trans hb2⟩
theorem IL (l:List Nat) (hs: ∀n∈l,n<100) (hl:l.length<=1000000):ah Tryz.prog 151 [.aE 1 (az l) l.length] (.v (.string (iJ l))):=
 .j7 (by kernel_rfl) (by simp only [bw,AV.wf,jb,SE]) (fun D nu w vargs hra=>by
  obtain ⟨x,rfl,hx⟩:=dI hra
  exact GS l hs hl x w (RA.zf hx (fun x _ cs hc=>my (vs:=[.int .i64 (x:Nat)]) hc)))
theorem Eu (n:Nat) (h:n<1000000):ah Tryz.prog 191 [.v (.int .i64 (n:Nat))] (.v (.string ⟨(Lib.decDigits n).toArray⟩)):=by
 refine ⟨⟨rfl,rfl⟩,by kernel_rfl,fun D nu w vargs hro hra=> ?_⟩;obtain ⟨x,rfl,hx⟩:=dI hra;obtain rfl:=hx.cf;obtain ⟨⟨t,hb⟩,_⟩:=hro.gl 1 _ _ rfl
 have htab:Lib.TabIs Tryz.prog w "internal/strconv.uint64pow10" .u64 Lib.pow10Tab:=by
  have hg:Tryz.prog.globalNamed "internal/strconv.uint64pow10" = some 1:=by kernel_rfl
  simp only [Lib.TabIs,World.var?,hg,Option.bind_some,hb]
  rfl
 refine (Any.strconv_Itoa Et n (by omega) (by omega) w htab).mono ?_;rintro e w' ⟨rfl,k,os,rfl⟩
 have e1:Lib.itoa (n:Int)=Lib.decDigits n:=by rw [Lib.itoa,if_neg (by omega)];rfl
 rw [e1];have hbw:Below w.heap.size w (Go.Sort.grow (w.drewN k) os):=Go.Lib.below_grow _ w (Nat.le_refl _) k os;exact ⟨_,nu,[],_,rfl,ar hbw,hro.below hbw, .v _,rfl,rfl⟩
section
section
variable {D:Nat->Prop} {nu:Nat->Nat->Value} {o:List (Option aa)} {w:World} {P:Program}
theorem EN (h:RO D nu o w) {id:Nat} {ob:aa} (ho:o[id]? = some (some ob)) (hv:ob.fj=false) (hz:ob.z=0):RA D nu (o.set id none) w (.mp ob.rows) (nu id 0):=by
 rcases h.obj id ob ho with ⟨e1,_⟩|⟨g,cur,hb⟩|⟨g,es,cl,hm⟩
 ·rw [e1] at hv;cases hv
 ·have:=hb.z;omega
 ·rw [hm.pO]
  have hf:Fz D nu (o.set id none) w g:=by
   refine ⟨(Array.getElem?_eq_some_iff.1 hm.blk).1, ?_,hm.kD⟩;rintro ⟨id',ob',k1,k2⟩
   by_cases he:id=id'
   ·subst he;rw [Q1 (QD.1 ho).1] at k1;cases k1
   ·rw [Q0 he] at k1;exact h.sep id id' ob ob' g ho k1 he hm.bC k2
  refine .mp _ g es cl hf hm.blk hm.sz hm.row hm.born hm.rm (fun i j row c e k1 k2 k3=> ?_);have hl:=hm.row i row k1;have hj:=(QD.1 k2).1
  match j,hj,k2 with
  | 0,_,k2=>exact (hm.key i row c e k1 k2 k3).mono (dE id) (fun _ _ h=>h)
  | 1,_,k2=>exact (hm.val i row c e k1 k2 k3).mono (dE id) (fun _ _ h=>h)
  | j+2,hj,_=>omega
theorem zu {s:AS} (i id:Nat) {ob:aa} (hi:s.t[i]? = some (.vec id 0)) (ho:s.o[id]? = some (some ob)) (hv:ob.fj=false) (hz:ob.z=0):u7 s (AS.mk (s.t.set i (.mp ob.rows)) (s.o.set id none) s.y):=by
 intro f D nu a w hs;have hm:=dE (nu:=nu) (o:=s.o) (w:=w) id;refine ⟨nu,hm,rfl,kF hs.ro id,⟨by simpa using hs.tm.len,fun j c x h1 h2=> ?_⟩,hs.gy⟩
 by_cases hij:i=j
 ·subst hij;rw [Q1 (QD.1 hi).1] at h1;cases h1;have hr:=hs.tm.at' i _ x hi h2;cases hr;exact EN hs.ro ho hv hz
 ·rw [Q0 hij] at h1;exact (hs.tm.at' j c x h1 h2).mono hm (fun _ _ h=>h)
end
theorem Ii {s:cg} (ok:Ja s) (l:List Nat) (lab:ByteArray) (hl:l.length<=1000000):ah Tryz.prog 152 [.vp (gh s), .aE 1 (az l) l.length, .v (.string lab)] (.aE 1 (az (cV s l lab)) (cV s l lab).length):=by
 have h:=Hh ok (pR l) lab (by rw [r9];exact hl);rw [r9, <- BH] at h;exact h
theorem Ep (l:List Nat) (n:Nat) (hl:l.length<=1000000): ∃k:Int,(decide (0<=k)=l.contains n)∧ah Tryz.prog 195 [.aE 1 (az l) l.length, .v (.int .i64 n)] (.v (.int .i64 k)):=by
 refine ⟨if l.contains n then (l.idxOf n:Int) else -1,by split<;>simp_all<;>omega, ?_⟩
 (refine ah.enter Tryz.func195 rfl (by kernel_rfl) (by kernel_rfl) rfl (by first|rfl|(simp only [go_sem,SE,R0,R3])) (by first|rfl|(simp only [go_sem,SE,R0,R3])) ?_;simp only [Tryz.ntmps195,Tryz.results195,QI,QC,Nat.reduceAdd,Nat.reduceSub,SG,SH,SB,SA])
 repeat (first|(with_reducible first|refine af.up ?_|refine fun (K:AK) hK=> ?_|(refine hK _ ?_;clear hK K))|simp only [go_sem]|with_reducible refine wA ?_|clear hK K)
 refine dq (ι:=Nat) 8 (fun i=>[(5, .undef),(8, .v (.int .i64 i))]) (fun i=>l.length - i) (fun i=>i<=l.length∧n∉l.take i) 0 ⟨Nat.zero_le _,by simp⟩ ?_ ?_
 ·(refine aj ?_ ?_ ?_<;>simp only [aT,R8,Sb,SG,SH,bj,bg,AV.v.injEq,Value.int.injEq,Value.bool.injEq,Value.string.injEq,AV.vec.injEq,AV.ptr.injEq,true_or,or_true,false_or,or_false,aa.mk.injEq,forall_eq_apply_imp_iff,forall_eq,forall_eq',go_sem])
  rfl
 rintro i ⟨hi,hn⟩ K hK
 repeat (first|(with_reducible first|refine af.up ?_|refine fun (K:AK) hK=> ?_|(refine hK _ ?_;clear hK K))|simp only [go_sem]|with_reducible refine wA ?_|clear hK K)
 refine cQ.part (fun h=> ?_) (fun h=> ?_)
 ·have hlt:i<l.length:=by (try simp only [bne_iff_ne,ne_eq,bne_eq_false_iff_eq,beq_iff_eq,beq_eq_false_iff_ne,decide_eq_true_eq,decide_eq_false_iff_not,SI,SJ,SK,SL] at h);omega
  have eW:=aM (k:=i) (by omega)
  have eG:(az l).getD i []=[.v (.int .i64 (l[i]:Nat))]:=by rw [az,getD_map _ l i [] hlt]
  repeat (first|(with_reducible first|refine af.up ?_|refine fun (K:AK) hK=> ?_|(refine hK _ ?_;clear hK K))|simp only [go_sem,h,eG]|with_reducible refine wA ?_|clear hK K)
  refine cQ.part (fun h2=> ?_) (fun h2=> ?_)
  ·have hc:n=l[i]:=by (try simp only [bne_iff_ne,ne_eq,bne_eq_false_iff_eq,beq_iff_eq,beq_eq_false_iff_ne,decide_eq_true_eq,decide_eq_false_iff_not,SI,SJ,SK,SL] at h2);omega
   have hm:l.contains n=true:=by rw [Tl,hc];exact List.getElem_mem hlt
   have hx:l.idxOf n=i:=by
    have h1:l.idxOf n<=i:=by
     exact vX l n i (by rw [hc];exact List.getElem?_eq_getElem hlt)
    rcases Nat.lt_or_ge (l.idxOf n) i with q|q
    ·exfalso
     have hq:l.idxOf n<l.length:=by omega
     refine hn (List.mem_take_iff_getElem.2 ⟨l.idxOf n,by omega, ?_⟩);exact List.getElem_idxOf hq
    ·omega
   repeat (first|(with_reducible first|refine af.up ?_|refine fun (K:AK) hK=> ?_|(refine hK _ ?_;clear hK K))|simp only [go_sem]|with_reducible refine wA ?_|clear hK K)
   rw [hm,if_pos rfl,hx]
  ·have hc:n≠l[i]:=by (try simp only [bne_iff_ne,ne_eq,bne_eq_false_iff_eq,beq_iff_eq,beq_eq_false_iff_ne,decide_eq_true_eq,decide_eq_false_iff_not,SI,SJ,SK,SL] at h2);omega
   repeat (first|(with_reducible first|refine af.up ?_|refine fun (K:AK) hK=> ?_|(refine hK _ ?_;clear hK K))|simp only [go_sem,eW]|with_reducible refine wA ?_|clear hK K)
   exact aQ.mk (i+1) ⟨by omega,by
    rw [List.take_succ_eq_append_getElem hlt,List.mem_append]
    rintro (e|e)
    ·exact hn e
    ·exact hc (by simpa using e)⟩ (by omega) (by (refine aj ?_ ?_ ?_<;>simp only [aT,R8,Sb,SG,SH,bj,bg,AV.v.injEq,Value.int.injEq,Value.bool.injEq,Value.string.injEq,AV.vec.injEq,AV.ptr.injEq,true_or,or_true,false_or,or_false,aa.mk.injEq,forall_eq_apply_imp_iff,forall_eq,forall_eq',go_sem]))
 ·have hm:l.contains n=false:=by
   have:i=l.length:=by (try simp only [bne_iff_ne,ne_eq,bne_eq_false_iff_eq,beq_iff_eq,beq_eq_false_iff_ne,decide_eq_true_eq,decide_eq_false_iff_not,SI,SJ,SK,SL] at h);omega
   rw [this,List.take_length] at hn;rw [<-Bool.not_eq_true,Tl];exact hn
  repeat (first|(with_reducible first|refine af.up ?_|refine fun (K:AK) hK=> ?_|(refine hK _ ?_;clear hK K))|simp only [go_sem]|with_reducible refine wA ?_|clear hK K)
  rw [hm,if_neg (by decide)]
theorem vC (l:List Nat) (n:Nat) (hl:l.length<=1000000):ah Tryz.prog 154 [.aE 1 (az l) l.length, .v (.int .i64 n)] (.v (.bool (l.contains n))):=by
 obtain ⟨k,hk,C⟩:=Ep l n hl
 (refine ah.enter Tryz.func154 rfl (by kernel_rfl) (by kernel_rfl) rfl (by first|rfl|(simp only [go_sem,SE,R0,R3])) (by first|rfl|(simp only [go_sem,SE,R0,R3])) ?_;simp only [Tryz.ntmps154,Tryz.results154,QI,QC,Nat.reduceAdd,Nat.reduceSub,SG,SH,SB,SA])
 repeat (first|(with_reducible first|refine af.up ?_|refine fun (K:AK) hK=> ?_|(refine hK _ ?_;clear hK K))|simp only [go_sem]|clear hK K)
 refine ae.one C ?_
 repeat (first|(with_reducible first|refine af.up ?_|refine fun (K:AK) hK=> ?_|(refine hK _ ?_;clear hK K))|simp only [go_sem]|clear hK K)
 rw [<-hk]
def vV (p:Nat->Bool):List Nat->Nat->Int
 | [],_=> -1
 | x :: xs,i=>if p x then (i:Int) else vV p xs (i+1)
theorem vW (p:Nat->Bool): ∀(l:List Nat) (i:Nat),decide (0<=vV p l i)=l.any p
 | [],i=>rfl
 | x :: xs,i=>by
  rw [vV,List.any_cons]
  cases p x with
  | true=>simp
  | false=>simpa using vW p xs (i+1)
theorem tM {g:FuncId} (caps:List AV) (hw:bw 0 caps=true) (p:Nat->Bool) (l:List Nat) (hl:l.length<=1000000) (H: ∀x:Nat,ah Tryz.prog g (.v (.int .i64 x) :: caps) (.v (.bool (p x)))) :
  ah Tryz.prog 111 [.aE 1 (az l) l.length, .fn g [] caps] (.v (.int .i64 (vV p l 0))):=by
 (refine ah.enter Tryz.func111 rfl (by kernel_rfl) (by kernel_rfl) rfl (by simp only [go_sem,bw,AV.wf,SE,R0,R3,hw]) (by simp only [go_sem,bw,AV.wf,aD,SE,R0,R3,hw]) ?_;simp only [Tryz.ntmps111,Tryz.results111,QI,QC,Nat.reduceAdd,Nat.reduceSub,SG,SH,SB,SA])
 repeat (first|(with_reducible first|refine af.up ?_|refine fun (K:AK) hK=> ?_|(refine hK _ ?_;clear hK K))|simp only [go_sem]|with_reducible refine wA ?_|clear hK K)
 refine dq (ι:=Nat) 8 (fun i=>[(5, .undef),(8, .v (.int .i64 i))]) (fun i=>l.length - i) (fun i=>i<=l.length∧vV p l 0=vV p (l.drop i) i) 0 ⟨Nat.zero_le _,rfl⟩ ?_ ?_
 ·(refine aj ?_ ?_ ?_<;>simp only [aT,R8,Sb,SG,SH,bj,bg,AV.v.injEq,Value.int.injEq,Value.bool.injEq,Value.string.injEq,AV.vec.injEq,AV.ptr.injEq,true_or,or_true,false_or,or_false,aa.mk.injEq,forall_eq_apply_imp_iff,forall_eq,forall_eq',go_sem])
  all_goals first|exact hw|rfl|exact ⟨hw,rfl⟩
 rintro i ⟨hi,hx⟩ K hK
 repeat (first|(with_reducible first|refine af.up ?_|refine fun (K:AK) hK=> ?_|(refine hK _ ?_;clear hK K))|simp only [go_sem]|with_reducible refine wA ?_|clear hK K)
 refine cQ.part (fun h=> ?_) (fun h=> ?_)
 ·have hlt:i<l.length:=by (try simp only [decide_eq_true_eq,decide_eq_false_iff_not,SK] at h);omega
  have eW:=aM (k:=i) (by omega)
  have eG:(az l).getD i []=[.v (.int .i64 (l[i]:Nat))]:=by rw [az,getD_map _ l i [] hlt]
  have HX:=H l[i];rw [List.drop_eq_getElem_cons hlt,vV] at hx
  repeat (first|(with_reducible first|refine af.up ?_|refine fun (K:AK) hK=> ?_|(refine hK _ ?_;clear hK K))|simp only [go_sem,eG]|with_reducible refine wA ?_|clear hK K)
  refine ae.one HX ?_
  rcases Bool.eq_false_or_eq_true (p l[i]) with hp|hp
  ·rw [hp,if_pos rfl] at hx
   repeat (first|(with_reducible first|refine af.up ?_|refine fun (K:AK) hK=> ?_|(refine hK _ ?_;clear hK K))|simp only [go_sem,hp]|with_reducible refine wA ?_|clear hK K)
   rw [hx]
  ·rw [hp,if_neg (by decide)] at hx
   repeat (first|(with_reducible first|refine af.up ?_|refine fun (K:AK) hK=> ?_|(refine hK _ ?_;clear hK K))|simp only [go_sem,hp,eW]|with_reducible refine wA ?_|clear hK K)
   refine aQ.mk (i+1) ⟨by omega,hx⟩ (by omega) ?_
   (refine aj ?_ ?_ ?_<;>simp only [aT,R8,Sb,SG,SH,bj,bg,AV.v.injEq,Value.int.injEq,Value.bool.injEq,Value.string.injEq,AV.vec.injEq,AV.ptr.injEq,true_or,or_true,false_or,or_false,aa.mk.injEq,forall_eq_apply_imp_iff,forall_eq,forall_eq',go_sem])
   all_goals first|exact hw|rfl
 ·have:i=l.length:=by (try simp only [decide_eq_true_eq,decide_eq_false_iff_not,SK] at h);omega
  rw [this,List.drop_length,vV] at hx
  repeat (first|(with_reducible first|refine af.up ?_|refine fun (K:AK) hK=> ?_|(refine hK _ ?_;clear hK K))|simp only [go_sem]|with_reducible refine wA ?_|clear hK K)
  rw [hx]
theorem oy {g:FuncId} (caps:List AV) (hw:bw 0 caps=true) (p:Nat->Bool) (l:List Nat) (hl:l.length<=1000000) (H: ∀x:Nat,ah Tryz.prog g (.v (.int .i64 x) :: caps) (.v (.bool (p x)))) :
  ah Tryz.prog 156 [.aE 1 (az l) l.length, .fn g [] caps] (.v (.bool (l.any p))):=by
 have C:=tM caps hw p l hl H
 (refine ah.enter Tryz.func156 rfl (by kernel_rfl) (by kernel_rfl) rfl (by simp only [go_sem,bw,AV.wf,SE,R0,R3,hw]) (by simp only [go_sem,bw,AV.wf,aD,SE,R0,R3,hw]) ?_;simp only [Tryz.ntmps156,Tryz.results156,QI,QC,Nat.reduceAdd,Nat.reduceSub,SG,SH,SB,SA])
 repeat (first|(with_reducible first|refine af.up ?_|refine fun (K:AK) hK=> ?_|(refine hK _ ?_;clear hK K))|simp only [go_sem]|clear hK K)
 refine ae.one C ?_
 repeat (first|(with_reducible first|refine af.up ?_|refine fun (K:AK) hK=> ?_|(refine hK _ ?_;clear hK K))|simp only [go_sem]|clear hK K)
 rw [vW]
theorem Es (last:List Nat) (n:Nat) (hl:last.length<=1000000):ah Tryz.prog 153 [.v (.int .i64 n), .vp [.aE 1 (az last) last.length]] (.v (.bool (last.contains n))):=by
 have C:=vC last n hl
 (refine ah.enter Tryz.func153 rfl (by kernel_rfl) (by kernel_rfl) rfl (by first|rfl|(simp only [go_sem,SE,R0,R3])) (by first|rfl|(simp only [go_sem,SE,R0,R3])) ?_;simp only [Tryz.ntmps153,Tryz.results153,QI,QC,Nat.reduceAdd,Nat.reduceSub,SG,SH,SB,SA])
 repeat (first|(with_reducible first|refine af.up ?_|refine fun (K:AK) hK=> ?_|(refine hK _ ?_;clear hK K))|simp only [go_sem]|clear hK K)
 refine ae.one C ?_
 repeat (first|(with_reducible first|refine af.up ?_|refine fun (K:AK) hK=> ?_|(refine hK _ ?_;clear hK K))|simp only [go_sem]|clear hK K)
def C7 (l:List ByteArray):List (List AV):=cU (l.zipIdx)
theorem z7 (l:List ByteArray):(C7 l).length=l.length:=by simp [C7,cU]
theorem wj (l:List ByteArray) (s:ByteArray): ∀k,look (l.zipIdx k) s=(pos l s).map (fun i=>i+k):=by
 induction l with
 | nil=>intro k;simp [look,pos]
 | cons a l ih=>
  intro k;rw [List.zipIdx_cons]
  have:=ih (k+1)
  simp only [look,pos,List.find?_cons,List.findIdx?_cons] at this ⊢
  cases h:cd s a
  ·simp only [Bool.false_eq_true,if_false];rw [this,Option.map_map]
   congr 1;funext i;simp;omega
  ·simp
theorem Dy (s:ByteArray) (l:List ByteArray):kS .string (.string s) (C7 l)=some ((pos l s).map (fun n=> .v (.int .i64 (n:Nat)))):=by
 rw [C7,x8,wj,Option.map_map];rfl
theorem Ez (l:List ByteArray) (s:ByteArray):C7 (l++[s])=cU (l.zipIdx++[(s,l.length)]):=by rw [C7,List.zipIdx_append];simp
theorem DA (s:ByteArray) (l:List ByteArray) (h:pos l s=none):lj .string (.string s) (.v (.int .i64 (l.length:Nat))) (C7 l)=some (C7 (l++[s])):=by
 rw [C7,mP s l.length _ (by rw [wj,h];rfl),Ez]
@[go_sem] theorem Pe (n:Nat) (l:List ByteArray):dz n (C7 l)=true:=oS n _
end
section
mutual
theorem zk {f:Nat->Nat} {m:Nat} (hf: ∀k,k<m->f k=k): ∀a:AV,a.wf m=true->a.bl f=a
 | .undef,_=>rfl
 | .v _,_=>rfl
 | .agg cs,h=>by rw [AV.bl,jB hf cs h]
 | .dA cs,h=>by rw [AV.bl,jB hf cs h]
 | .aE z rows len,h=>by rw [AV.bl,uy hf rows h]
 | .vp cs,h=>by rw [AV.bl,jB hf cs h]
 | .ptr id _ _ _ _,h=>by simp [AV.wf] at h;rw [AV.bl,hf id h]
 | .vec id _,h=>by simp [AV.wf] at h;rw [AV.bl,hf id h]
 | .fn g a b,h=>by
  simp only [AV.wf,Rq] at h;rw [AV.bl,jB hf a h.1,jB hf b h.2]
 | .full a,h=>by rw [AV.bl,zk hf a h]
 | .iP p a,h=>by rw [AV.bl,zk hf a h]
 | .mp rows,h=>by rw [AV.bl,uy hf rows h]
theorem jB {f:Nat->Nat} {m:Nat} (hf: ∀k,k<m->f k=k): ∀l:List AV,bw m l=true->bQ f l=l
 | [],_=>rfl
 | a :: l,h=>by
  simp only [bw,Rq] at h;rw [bQ,zk hf a h.1,jB hf l h.2]
theorem uy {f:Nat->Nat} {m:Nat} (hf: ∀k,k<m->f k=k): ∀l:List (List AV),dz m l=true->bR f l=l
 | [],_=>rfl
 | a :: l,h=>by
  simp only [dz,Rq] at h;rw [bR,jB hf a h.1,uy hf l h.2]
end
section
variable {D:Nat->Prop} {nu:Nat->Nat->Value} {o:List (Option aa)} {w:World} {P:Program}
theorem cm {s:AS} {k i j id len:Nat} {ob ob2:aa} {row:List AV} (hne:id≠k) (hk:s.o[k]? = some (some ob)) (hz:0<ob.z) (hr:ob.rows[i]? = some row) (hj:row[j]? = some (.vec id len)) (ho:s.o[id]? = some (some ob2)) (hv:ob2.fj=true) (hl:ob2.rows.length=len) :
  u7 s (AS.mk s.t ((s.o.set id none).set k (some { ob with rows:=ob.rows.set i (row.set j (.aE ob2.z ob2.rows len)) })) s.y):=by
 intro f D nu a w hs;have hp:=dE (nu:=nu) (o:=s.o) (w:=w) id;have hro:=kF hs.ro id
 have hk':(s.o.set id none)[k]? = some (some ob):=by rw [Q0 hne];exact hk
 have hh:ob.hl=({ ob with rows:=ob.rows.set i (row.set j (.aE ob2.z ob2.rows len)) }:aa).hl:=by simp [aa.hl]
 obtain ⟨g,cur,hb⟩: ∃g cur,rF D nu (s.o.set id none) w k ob g cur:=by
  rcases hro.obj k ob hk' with ⟨_,e,_⟩|h|⟨g,es,cl,hm⟩
  ·rw [e] at hr;simp at hr
  ·exact h
  ·have:=hm.z;omega
 have hm:=iZ (nu:=nu) (o:=s.o.set id none) (w:=w) (w':=w) (ob':={ ob with rows:=ob.rows.set i (row.set j (.aE ob2.z ob2.rows len)) }) hk' hh.symm hb.bC rfl rfl rfl rfl (fun _ _=>rfl);refine ⟨nu,hp.trans hm,rfl, ?_,(hs.tm.mono hp (fun _ _ h=>h)).mono hm (fun _ _ h=>h),hs.gy⟩;have hil:=(QD.1 hr).1;have hjl:=(QD.1 hj).1;have hsl:=jD hs.ro ho hv;rw [hl] at hsl
 have key: ∀(i' j':Nat) r c,(ob.rows.set i (row.set j (.aE ob2.z ob2.rows len)))[i']? = some r->r[j']? = some c-> ∃r0 c0,ob.rows[i']? = some r0∧r0[j']? = some c0∧(c=c0∨(c = .aE ob2.z ob2.rows len∧c0 = .vec id len)):=by
  intro i' j' r c h1 h2
  by_cases hi:i=i'
  ·subst hi;rw [Q1 hil] at h1;cases h1
   by_cases hj':j=j'
   ·subst hj';rw [Q1 hjl] at h2;cases h2;exact ⟨row,_,hr,hj, .inr ⟨rfl,rfl⟩⟩
   ·rw [Q0 hj'] at h2;exact ⟨row,c,hr,h2, .inl rfl⟩
  ·rw [Q0 hi] at h1;exact ⟨r,c,h1,h2, .inl rfl⟩
 refine qF hro hk' hh.symm hb.bC hm (fun _ _=>rfl) (cur:=cur) ⟨hb.blk,hb.kD,fun hv'=> ?_,fun hv'=> ?_,hb.z,fun i' r hi'=> ?_,fun i' j' r c x h1 h2 h3=> ?_,fun i' j' r c x h1 h2 h3=> ?_⟩
 ·obtain ⟨q1,q2,q3⟩:=hb.box hv';exact ⟨q1,by simpa using q2,q3⟩
 ·obtain ⟨cap,q1,q2,q3,q4⟩:=hb.vec hv';exact ⟨cap,by simpa using q1,by simpa using q2,q3,q4⟩
 ·by_cases hi:i=i'
  ·subst hi;rw [Q1 hil] at hi';cases hi';rw [List.length_set];exact hb.row i row hr
  ·rw [Q0 hi] at hi';exact hb.row i' r hi'
 ·obtain ⟨r0,c0,k1,k2,e⟩:=key i' j' r c h1 h2;have h0:=hb.cell i' j' r0 c0 x k1 k2 h3
  rcases e with rfl|⟨rfl,rfl⟩
  ·exact h0.mono hm (fun _ _ h=>h)
  ·have hx:x=nu id len:=by
    cases h0 with
    | vec=>rfl
   rw [hx];exact hsl.mono hm (fun _ _ h=>h)
 ·obtain ⟨r0,c0,k1,k2,_⟩:=key i' j' r c h1 h2;exact hb.one i' j' r0 c0 x k1 k2 h3
end
section
variable {o:List (Option aa)}
end
def Lx (N:Nat) (g:Nat->Bool):List (List AV):=(List.range N).map (fun j=>[.v (.bool (g j))])
def NZ (N:Nat) (f:Nat->Nat->Bool):List (List AV):=(List.range N).map (fun i=>[.aE 1 (Lx N (f i)) N])
def Qb (k i:Nat):Nat:=k+1+2 * i
def uh (k N m:Nat):List (List AV):=(List.range m).map (fun i=>[.vec (Qb k i) N])
def N4 (N:Nat) (g:Nat->Bool):Option aa:=some ⟨4,1,true,Lx N g⟩
def Ll (N:Nat) (f:Nat->Nat->Bool) (m:Nat):List (Option aa):=(List.range m).flatMap (fun i=>[N4 N (f i),none])
def P7 (k N m:Nat) (f:Nat->Nat->Bool):List (Option aa):=some ⟨160,1,true,uh k N m⟩ :: Ll N f m
theorem H7 (N:Nat) (g:Nat->Bool):(Lx N g).length=N:=by simp [Lx]
theorem Hf (N:Nat) (f:Nat->Nat->Bool):(NZ N f).length=N:=by simp [NZ]
theorem wM (k N m:Nat):(uh k N m).length=m:=by simp [uh]
def Qo (f:Nat->Nat->Bool) (i j:Nat) (v:Bool):Nat->Nat->Bool:=fun p q=>if p=i∧q=j then v else f p q
theorem FM (n N:Nat) (g:Nat->Bool):dz n (Lx N g)=true:=bA _ (fun _=>rfl) _
theorem J9 (n N:Nat) (f:Nat->Nat->Bool):dz n (NZ N f)=true:=bA _ (fun i=>by simp only [bw,AV.wf,FM,Bool.and_self]) _
attribute [go_sem] FM J9 H7 Hf wM
section
variable {o:List (Option aa)} {P:Program}
theorem ej.v (x:Value):ej o (.v x) (.v x):=fun D nu w y hro hra=>by rw [hra.cf];exact .v x
theorem ej.dA {l m:List AV} (h:om o l m):ej o (.dA l) (.dA m):=fun D nu w x hro hra=>by
 obtain ⟨h1,h2⟩:=h.at'
 cases hra with
 | dA _ xs k1 k2=>
  refine .dA _ _ (by omega) fun i c y q1 q2=> ?_
  have hi:i<l.length:=by rw [h1];exact (QD.1 q1).1
  exact h2 i _ c (QS hi) q1 D nu w y hro (k2 i _ y (QS hi) q2)
theorem ej.ptr {id z:Nat} {ob:aa} {row cs:List AV} (ho:o[id]? = some (some ob)) (hv:ob.fj=false) (hr:ob.rows=[row]) (hz:ob.z≠0) (h:om o row cs):ej o (.ptr id 0 z 0 0) (.vp cs):=fun D nu w x hro hra=>by
 obtain ⟨hl,hall⟩:=h.at'
 cases hra with
 | ptr _ _ _ _ _ b h1 h2=>
 rcases hro.obj id ob ho with ⟨e1,e2,e3⟩|⟨g,cur,hb⟩|⟨g,es,cl,hmp⟩
 ·rw [e2] at hr;cases hr
 ·have hb0:=hb.kC;rw [aa.hl,hv,if_neg (by decide)] at hb0;rw [hb0] at h2;cases h2
  have hrow:ob.rows[0]? = some row:=by rw [hr];rfl
  have hget: ∀(j:Nat) c,cs[j]? = some c-> ∃c0,row[j]? = some c0∧cur[0 * ob.z+j]? = some (cur.getD (0 * ob.z+j) Go.undef):=fun j c hc=>by
   have hj:j<row.length:=by rw [hl];exact (QD.1 hc).1
   have:=hb.l9 hrow hj
   refine ⟨_,QS hj, ?_⟩;rw [QR this,Array.getD,dif_pos this]
   rfl
  refine .vp _ b _ (fun j=>cur.getD (0 * ob.z+j) Go.undef) ⟨(QB.1 hb.blk).1,bf _ _,hb.kD⟩ (fun j c hc=> ?_) (fun j c hc=> ?_) (fun j c hc=> ?_)
  all_goals obtain ⟨c0,k1,k2⟩:=hget j c hc
  ·have hblk:=hb.blk;simp only [Nat.zero_mul,Nat.zero_add] at k2 ⊢;rw [<-k2];simp [World.cell?,hblk]
  ·exact hall j c0 c k1 hc D nu w _ hro (hb.cell 0 j row c0 _ hrow k1 k2)
  ·exact hb.one 0 j row c0 _ hrow k1 k2
 ·exact absurd hmp.z hz
theorem ah.yv {f:FuncId} {fn:Func} {c:Code} {args:List AV} {r:AV} (hf:P.funcs[f]? = some fn) (hb:fn.body=some c) (hc:dM P f=true) (hok:bX c=true) (hmx:P.follows .mixedOrders=true)
  (ha:bw 0 args=true) (hr:r.wf 0=true) (h:cA P 0 c ⟨args++List.replicate (fn.ntmps - args.length) .undef,[], .no⟩ (s7 P fn.results.toList (fun r0 o=>ej o r0 r))):ah P f args r:=by
 obtain ⟨_,h2⟩:=fV.enter (o:=[]) hf hb hc hok hmx h;refine ⟨⟨ha,hr⟩,hc,fun D nu w vargs hro hra=>(h2 D nu w vargs hro hra).mono ?_⟩;rintro e w' ⟨v,nu',o',r0,rfl,hm,hro',hra',hz⟩;have hm':bY nu [] w nu' [] w':=⟨hm.os,hm.tape,hm.output,hm.size,fun id len hh=>by obtain ⟨x,k,_⟩:=hh;simp at k,fun b hb ho=>⟨(hm.keep b hb ho).1,bf _ _⟩⟩;exact ⟨v,nu',[],r,rfl,hm',(.nil _ _ _ hro'.up (hro'.gl.nil (fun _ _ h=>h))),hz _ _ _ _ hro' hra',rfl,rfl⟩
end
mutual
theorem zj {f g:Nat->Nat} {m:Nat} (hf: ∀k,k<m->f k=g k): ∀a:AV,a.wf m=true->a.bl f=a.bl g
 | .undef,_=>rfl
 | .v _,_=>rfl
 | .agg cs,h=>by rw [AV.bl,AV.bl,jz hf cs h]
 | .dA cs,h=>by rw [AV.bl,AV.bl,jz hf cs h]
 | .aE z rows len,h=>by rw [AV.bl,AV.bl,uw hf rows h]
 | .vp cs,h=>by rw [AV.bl,AV.bl,jz hf cs h]
 | .ptr id _ _ _ _,h=>by simp [AV.wf] at h;rw [AV.bl,AV.bl,hf id h]
 | .vec id _,h=>by simp [AV.wf] at h;rw [AV.bl,AV.bl,hf id h]
 | .fn g a b,h=>by
  simp only [AV.wf,Rq] at h;rw [AV.bl,AV.bl,jz hf a h.1,jz hf b h.2]
 | .full a,h=>by rw [AV.bl,AV.bl,zj hf a h]
 | .iP p a,h=>by rw [AV.bl,AV.bl,zj hf a h]
 | .mp rows,h=>by rw [AV.bl,AV.bl,uw hf rows h]
theorem jz {f g:Nat->Nat} {m:Nat} (hf: ∀k,k<m->f k=g k): ∀l:List AV,bw m l=true->bQ f l=bQ g l
 | [],_=>rfl
 | a :: l,h=>by
  simp only [bw,Rq] at h;rw [bQ,bQ,zj hf a h.1,jz hf l h.2]
theorem uw {f g:Nat->Nat} {m:Nat} (hf: ∀k,k<m->f k=g k): ∀l:List (List AV),dz m l=true->bR f l=bR g l
 | [],_=>rfl
 | a :: l,h=>by
  simp only [dz,Rq] at h;rw [bR,bR,jz hf a h.1,uw hf l h.2]
end
theorem ej.N9 {o:List (Option aa)} {z len:Nat} {rows:List (List AV)} (h:dz 0 rows=true):ej o (.aE z rows len) (.aE z rows len):=ej.of 1 (p:=(AV.aE z rows len).wf 0=true) (by rw [fW]<;>simp) (by rw [AV.wf];exact h)
theorem ej.Mx {o:List (Option aa)} {id len:Nat} {ob:aa} (ho:o[id]? = some (some ob)) (hv:ob.fj=true) (hl:ob.rows.length=len) (hw:dz 0 ob.rows=true):ej o (.vec id len) (.aE ob.z ob.rows len):=ej.of 1 (p:=ob.fj=true∧ob.rows.length=len∧dz 0 ob.rows=true) (by rw [fW,ho]) ⟨hv,hl,hw⟩
section
variable {P:Program}
theorem Bh {n0:Nat} {c:Code} {s:AS} {Q:ba->AS->Prop} (s0:AS) (hok:bX c=true) (h:cA P n0 c s (fun e s'=>e = .normal∧Wk n0 s' s0)) (k:Q .normal s0):xS P n0 c s Q:=fun f m D nu a w hZr hn hm hs hmx R hO hR=>by
 refine gX hmx m hZr hn c hok s a w D nu f.Z _ R hO hm hs h ?_;rintro e D' Z' s' a' w' nu' h1 h2 ⟨rfl,hk⟩;refine hR .normal D' Z' s0 a' w' nu' ?_ (jE hk h2) k;rw [<-hk.y];exact m.step h1 h2.ro hk.so (jE hk h2).ro (fun c v hr hc=>hk.ra hr hc) (fun _ h=> .inl h) (fun _ h=> .inl h) (fun b hb=>⟨((m.mJ h1).1 b hb).1,((m.mJ h1).1 b hb).2, .inl hb⟩) (Nat.le_trans hn hk.n)
theorem o9 {n0 id:Nat} {s:AS} {ops:Array Oper} {d:Bool} {Q:ba->AS->Prop} (s0:AS) (hok:dN ops=true) (h:cA P n0 (.region id ops d) s (fun e s'=>e = .normal∧Wk n0 s' s0)) (k:Q .normal s0):cA P n0 (.region id ops d) s Q:=by
 have:=Bh (c:= .region id ops d) s0 hok h k
 cases d
 ·exact .inr this
 ·exact .inr this
end
section
variable {P:Program} {ops:Array Oper}
def gb:List Oper->List Oper
 | []=>[]
 | o :: l=>o :: l.map (fun p=>{ p with after:=p.after.push ⟨0, .data⟩ })
theorem pt (l:List Oper):(gb l).length=l.length:=by cases l<;>simp [gb]
theorem mb (l:List Oper) (i:Nat):(gb l)[i]? = (l[i]?).map (fun p=>if i=0 then p else { p with after:=p.after.push ⟨0, .data⟩ }):=by
 cases l with
 | nil=>simp [gb]
 | cons o l=>
  cases i with
  | zero=>simp [gb]
  | succ i=>simp [gb]
theorem yu (l:List Oper) (t:Array Value):yielded (gb l).toArray t=yielded l.toArray t:=by
 funext j
 simp only [yielded,QU,mb]
 cases l[j]? with
 | none=>rfl
 | some o=>by_cases h:j=0<;>simp only [Rb,Option.bind_some,h,if_true,if_false]
theorem GD {F:Fence} {n:Nat} {Q:Exit->Act->World->Prop} {l:List Oper} {i:Nat} {K:Act->World->Prop} {a:Act} {w:World} (h:wpOpIn F n P (gb l).toArray Q i K a w):wpOpIn F n P l.toArray Q i K a w:=by
 unfold wpOpIn at h ⊢;simp only [QU,mb,yu] at h ⊢
 cases ho:l[i]? with
 | none=>simpa [ho] using h
 | some o=>
  simp only [ho,Rb] at h ⊢
  split at h<;>exact h
theorem zT {F:Fence} {n:Nat} {Q:Exit->Act->World->Prop} {l:List Oper} {ops:Array Oper} {E:Act->World->Prop}: ∀(fuel:Nat) (listed:Array Bool) (a:Act) (w:World),kT (wpOpIn F n P (gb l).toArray Q) ops E fuel listed a w->kT (wpOpIn F n P l.toArray Q) ops E fuel listed a w
 | 0,_,_,_,h=>h
 | fuel+1,_,_,_,h=>⟨h.1,fun i hi=>GD (wpOpIn_mono (fun _ _=>zT fuel _ _ _) (h.2 i hi))⟩
theorem pw {l:List Oper} {listed:Array Bool} (h0:listed.getD 0 false=true):Region.ready .any (gb l).toArray listed=Region.ready .any l.toArray listed:=by
 unfold Region.ready;simp only [Q3,pt,QU,mb];refine List.filter_congr fun i _=> ?_
 congr 1
 cases l[i]? with
 | none=>rfl
 | some o=>
  simp only [Rb,Option.getD_some]
  split
  ·rfl
  ·simp;intro _;right;simpa using h0
theorem vF {st:Nat->(Act->World->Prop)->Act->World->Prop} (hst: ∀(i:Nat) (K K':Act->World->Prop) (a:Act) (w:World),(∀a w,K a w->K' a w)->st i K a w->st i K' a w) {l:List Oper} {E:Act->World->Prop}: ∀(fuel:Nat) (listed:Array Bool) (a:Act) (w:World),listed.getD 0 false=true->kT st (gb l).toArray E fuel listed a w->kT st l.toArray E fuel listed a w
 | 0,listed,a,w,h0,h=>by
  rw [kT,pw h0] at h;exact h
 | fuel+1,listed,a,w,h0,h=>by
  rw [kT,pw h0] at h;refine ⟨h.1,fun i hi=>hst _ _ _ _ _ (fun a w=>vF hst fuel _ a w ?_) (h.2 i hi)⟩
  by_cases hi0:i=0
  ·subst hi0
   have:0<listed.size:=by
    rcases Nat.eq_zero_or_pos listed.size with q|q
    ·simp [q] at h0
    ·exact q
   simp [this]
  ·rw [getD_set_ne false hi0];exact h0
theorem BM {r:Option Nat} {n i:Nat} {o:Oper} {Q:Exit->Act->World->Prop} (hC:dN ops=true) (hns:Region.noSelect ops=true) (hP: ∀c a w, ¬Q (.panic c) a w) (ho:ops[i]? = some o) {d t:Tmp} {v:Value} {a:Act} {w:World} {K:Act->World->Prop} (hd:d∉o.looksAt ops) (hod:o.dst≠some d) (hot:o.dst≠some t) (h:wpOpIn (WF r) n P ops Q i K (a.put (some d) v) w) :
  wpOpIn (WF r) n P ops Q i (fun a' w'=>K (a'.put (some d) v) w'∧a'.eval (.tmp t)=a.eval (.tmp t)) a w:=by
 have hsel:=fun cs b=>Region.noSelect_spec hns i o cs b ho;have hput: ∀(a:Act) (u:Value),(a.put (some d) v).put o.dst u=(a.put o.dst u).put (some d) v:=fun a u=>Act.put_comm a v u (fun e he q=>hod (by rw [q,he]))
 have hev: ∀(a:Act) (u:Value),(a.put o.dst u).eval (.tmp t)=a.eval (.tmp t):=fun a u=>Act.eval_put fun e he hx=>hot (by
  rw [he];injection hx with hx;rw [hx])
 unfold wpOpIn at h ⊢;simp only [ho] at h ⊢;rw [wanted_put o a (some d) v (fun e he=>by injection he with he;exact he ▸ hd)] at h
 split at h
 ·rename_i hw;rw [if_pos hw];refine ⟨fun f _=>trivial, ?_⟩;have h:=h.2;rw [jU hC ho,execOp_put o hsel a (some d) v (fun e he=>by injection he with he;exact he ▸ hd)] at h;rw [jU hC ho];generalize (execOp a.eval o).run P w=res at h ⊢
  cases res with
  | ok x w'=>
   cases x<;>simp only [Oper.uponIn] at h ⊢
   case value=>exact ⟨hput _ _ ▸ h,hev _ _⟩
   case skip=>exact ⟨hput _ _ ▸ h,hev _ _⟩
   case enter=>
    refine ⟨h.1,CallsIn.mono h.2 fun e w'' he=> ?_⟩;cases e
    case returned=>exact ⟨hput _ _ ▸ he,hev _ _⟩
    case panicked=>exact absurd he (hP _ _ _)
    case outgrown=>exact he
   case defer q=>exact ⟨hput { a with defers:=q :: a.defers } undef ▸ h,hev { a with defers:=q :: a.defers } undef⟩
   case row=>exact ⟨h.1,RowsIn.mono h.2 fun _ _ he=>⟨hput _ _ ▸ he,hev _ _⟩⟩
   case round=>
    refine ⟨h.1,RoundIn.mono h.2 fun e w'' he=> ?_⟩;cases e
    case returned=>exact ⟨hput _ _ ▸ he,hev _ _⟩
    case panicked=>exact absurd he (hP _ _ _)
    case outgrown=>exact he
  | halt x w'=>
   cases x<;>simp only [Oper.uponIn] at h ⊢
   all_goals first|exact h|exact absurd h (hP _ _ _)
 ·rename_i hw;rw [if_neg hw];exact ⟨fun f _=>trivial,hput _ _ ▸ h.2,hev _ _⟩
def se (ops:Array Oper) (d t:Tmp):Bool:=
 Region.noSelect ops&&dN ops&&(d !=t)&&(match ops[0]? with|some o=>(o.dst==some d)&&(match o.op with| .move (.tmp u)=>u==t|_=>false)&&o.guard.isNone&&(o.after.size==0)|none=>false) &&
 (List.range ops.size).all (fun j=>j==0||match ops[j]? with|some o=>(o.dst !=some d)&&(o.dst !=some t)&&(aG ops j 0 || !(o.looksAt ops).contains d)|none=>true)
theorem wh {r:Option Nat} {n:Nat} {Q:Exit->Act->World->Prop} {d t:Tmp} (hL:se ops d t=true):0<ops.size∧(∀(l:List Oper) (listed:Array Bool),l.toArray=ops->listed.getD 0 true=false->0∈Region.ready .any (gb l).toArray listed)∧(∀(listed:Array Bool),listed.getD 0 true=false->0∈Region.ready .any ops listed)∧ ∀(K:Act->World->Prop) a w,wpOpIn (WF r) n P ops Q 0 K a w↔K (a.put (some d) (a.eval (.tmp t))) w:=by
 simp only [se,Rq,List.all_eq_true,List.mem_range,bne_iff_ne] at hL;obtain ⟨⟨⟨⟨hns,hC⟩,hdt⟩,h0⟩,hall⟩:=hL
 obtain ⟨o0,ho0,hdst,hop,hg,haf⟩: ∃o0:Oper,ops[0]? = some o0∧o0.dst=some d∧o0.op = .move (.tmp t)∧o0.guard=none∧o0.after = #[]:=by
  cases ho:ops[0]? with
  | none=>simp [ho] at h0
  | some o=>
   simp only [ho,Rq,beq_iff_eq] at h0;refine ⟨o,rfl,h0.1.1.1, ?_,by simpa using h0.1.2,by simpa using h0.2⟩
   have:=h0.1.1.2
   split at this
   ·rename_i u hu;rw [hu];simp at this;rw [this]
   ·cases this
 have h0s:0<ops.size:=by
  rcases Nat.eq_zero_or_pos ops.size with q|q
  ·rw [Array.getElem?_eq_none (by omega)] at ho0;cases ho0
  ·exact q
 refine ⟨h0s,fun l listed hl' hl=>mem_ready.2 ⟨hl,o0,by subst hl';simp only [QU] at ho0;simp [mb,ho0],fun e he _=>by rw [haf] at he;simp at he⟩,fun listed hl=>mem_ready.2 ⟨hl,o0,ho0,fun e he _=>by rw [haf] at he;simp at he⟩, ?_⟩
 ·intro K a w;unfold wpOpIn;simp only [ho0];rw [if_pos (by simp [Region.wanted,hg])];unfold Oper.wpIn;rw [jU hC ho0]
  have:(execOp a.eval o0).run P w = .ok (.value (a.eval (.tmp t))) w:=by unfold execOp;rw [hop];rfl
  rw [this];simp only [Oper.uponIn,hdst];exact ⟨fun h=>h.2,fun h=>⟨fun f _=>trivial,h⟩⟩
theorem yO {r:Option Nat} {n:Nat} {Q:Exit->Act->World->Prop} {E:Act->World->Prop} {d t:Tmp} (hL:se ops d t=true) (hP: ∀c a w, ¬Q (.panic c) a w): ∀(fuel:Nat) (listed:Array Bool) (a:Act) (w:World),listed.size=ops.size->listed.getD 0 true=false->kT (wpOpIn (WF r) n P ops Q) ops E fuel (listed.setIfInBounds 0 true) (a.put (some d) (a.eval (.tmp t))) w->kT (wpOpIn (WF r) n P ops Q) ops E (fuel+1) listed a w:=by
 obtain ⟨h0s, -,hread,hrun⟩:=wh (P:=P) (Q:=Q) (r:=r) (n:=n) hL;simp only [se,Rq,List.all_eq_true,List.mem_range,bne_iff_ne] at hL;obtain ⟨⟨⟨⟨hns,hC⟩,hdt⟩,h0⟩,hall⟩:=hL
 have hstep: ∀(listed:Array Bool),listed.size=ops.size->listed.getD 0 true=false-> ∀i∈Region.ready .any ops listed,i≠0->i∈Region.ready .any ops (listed.setIfInBounds 0 true)∧ ∀(K:Act->World->Prop) v a w,wpOpIn (WF r) n P ops Q i K (a.put (some d) v) w->wpOpIn (WF r) n P ops Q i (fun a' w'=>K (a'.put (some d) v) w'∧a'.eval (.tmp t)=a.eval (.tmp t)) a w:=by
  intro listed hs hl i hi hi0;obtain ⟨g1,o,g2,g3⟩:=mem_ready.1 hi;have hil:i<ops.size:=(QB.1 g2).1
  refine ⟨mem_ready.2 ⟨by rw [getD_set_ne true (Ne.symm hi0)];exact g1,o,g2,fun e he hb=> ?_⟩, ?_⟩
  ·by_cases he0:e.on=0
   ·rw [he0];simp [hs,h0s]
   ·rw [getD_set_ne false (Ne.symm he0)];exact g3 e he hb
  ·have ha:=hall i hil;simp only [g2,Bool.or_eq_true,beq_iff_eq,hi0,false_or,Rq,bne_iff_ne] at ha;intro K v a w h;refine BM hC hns hP g2 ?_ ha.1.1 ha.1.2 h
   rcases ha.2 with hdep|hlook
   ·exfalso;simp only [aG,g2,Rq,beq_iff_eq,Array.any_eq_true'] at hdep;obtain ⟨e,he,hb,h00⟩:=hdep
    have:=g3 e he hb
    rw [h00] at this;simp only [Array.getD_eq_getD_getElem?] at this hl;rw [QR (by omega)] at this hl;simp at this hl;rw [this] at hl;cases hl
   ·intro hm;rw [List.contains_iff_mem.2 hm] at hlook;cases hlook
 intro fuel
 induction fuel with
 | zero=>
  intro listed a w hs hl h
  refine ⟨fun he=> ?_,fun i hi=> ?_⟩
  ·have:=hread listed hl;rw [he] at this;cases this
  ·by_cases hi0:i=0
   ·subst hi0;exact (hrun _ _ _).2 h
   ·have:=(hstep listed hs hl i hi hi0).1
    rw [h.1] at this;cases this
 | succ fuel ih=>
  intro listed a w hs hl h
  refine ⟨fun he=> ?_,fun i hi=> ?_⟩
  ·have:=hread listed hl;rw [he] at this;cases this
  ·by_cases hi0:i=0
   ·subst hi0;exact (hrun _ _ _).2 h
   ·obtain ⟨q1,q2⟩:=hstep listed hs hl i hi hi0;refine wpOpIn_mono (fun a' w' hk=> ?_) (q2 _ _ _ _ (h.2 i q1));have e:(listed.setIfInBounds 0 true).setIfInBounds i true=(listed.setIfInBounds i true).setIfInBounds 0 true:=Array.setIfInBounds_comm _ _ (Ne.symm hi0)
    refine ih _ a' w' (by simpa using hs) ?_ ?_
    ·rw [getD_set_ne true hi0];exact hl
    ·rw [<-e,hk.2];exact hk.1
theorem mT {n0 id:Nat} {s:AS} {l:List Oper} {Q:ba->AS->Prop} (m0 d t:Nat) (hL:se l.toArray d t=true) (hB:gD (gb l).toArray m0=true) (hC:dN (gb l).toArray=true) (h:dF P (gb l) (fun s=>iQ P (gb l) ((gb l).drop m0) s (Q .normal)) ((gb l).take m0) s):cA P n0 (.region id l.toArray true) s Q:=by
 refine .inr (fun f m D nu a w hZr hn hm hs hmx R hO hR=> ?_)
 have hCl:dN l.toArray=true:=by
  simp only [se,Rq] at hL;exact hL.1.1.1.2
 have hm0:m0<=(gb l).length:=by
  simp only [gD,Rq,decide_eq_true_eq,Q3] at hB;exact Nat.le_of_lt hB.1.1.2
 have hcalm: ∀oo,oo∈(gb l).drop m0-> ∀c,oo.op ≠ .defer c:=fun oo ho c e=>by
  unfold dN at hC;rw [Array.all_eq_true_iff_forall_mem] at hC;have h2:=hC oo (by simpa using List.mem_of_mem_drop ho);rw [e] at h2;cases h2
 obtain ⟨R',hR'⟩: ∃R':Exit->Act->World->Prop,R'=fun e a w=>(match e with| .panic _=>False|_=>True)∧R e a w:=⟨_,rfl⟩
 have hP: ∀c a w, ¬R' (.panic c) a w:=fun c a w q=>by rw [hR'] at q;exact q.1
 have hN: ∀a w,R .normal a w->R' .normal a w:=fun a w q=>by rw [hR'];exact ⟨trivial,q⟩
 obtain ⟨rs,hrel⟩:=fX (P:=P) (T:=fun k=>mz (wpOpIn (WF f.r) 9 P (gb l).toArray R') (R' .normal) (List.range' k ((gb l).length - k))) hm0 hB hs.drew (fun sk a' wr hE ho hy hsk hB'=>mf _ _ _ _ (by omega) (iS m hZr _ sk a' wr D nu hcalm (by
  rw [ho,hy];exact m.own hm hs.ro ((ar (cP w)).trans (ar hE)) (ho ▸ hsk.ro)) hsk hB' (fun D' s' a2 w2 nu' q1 q2 q3=>hN _ _ (hR .normal D' f.Z s' a2 w2 nu' q1 q2 q3)))) ((gb l).take m0) 0 s [] (fun _=>a) (by simp) (Nat.zero_le _) ⟨rfl,rfl,rfl,fun _=>rfl,fun _=>hs.tm.len,fun x t c v h1 h2=> .inl ⟨h1,h2⟩⟩ h
 have hX:=fI _ (fun _=>false) (fun i v w h=>by cases h) m0 (Ay hC R') hB (jy _ _ _ hrel);have hX:=zT _ _ _ _ hX
 have hlen:0<l.length:=by
  rw [<-pt];simp only [gD,Rq,decide_eq_true_eq,Q3] at hB
  have:=hB.1.1.2;omega
 obtain ⟨fuel,hf⟩: ∃fuel,l.length=fuel+1:=⟨l.length - 1,by omega⟩
 have hX2:kT (wpOpIn (WF f.r) 9 P l.toArray R') l.toArray (R' .normal) (fuel+1) (Array.replicate (fuel+1) false) a w.drew:=by
  rw [Q3,pt,hf] at hX;refine yO hL hP fuel _ a _ (by simp [hf]) (by simp) ?_;obtain ⟨-, he, -,hrun⟩:=wh (P:=P) (Q:=R') (r:=f.r) (n:=9) hL;exact vF (st:=wpOpIn (WF f.r) 9 P l.toArray R') (fun i K K' a w h k=>wpOpIn_mono h k) fuel ((Array.replicate (fuel+1) false).setIfInBounds 0 true) _ _ (by simp) ((hrun _ _ _).1 (hX.2 0 (he l _ rfl (by simp))))
 refine Code.wpIn_mono (Q:=R') (fun e a w q=>by rw [hR'] at q;exact q.2) (wpIn_region_any hmx (tq _ _ _ _ ?_));rw [Q3,hf];exact hX2
end
end
theorem ua {l:List ByteArray} (hn:l.Nodup) {i:Nat} (h:i<l.length):l[i]∉l.take i:=fun q=>by
 obtain ⟨j,hj,e⟩:=List.mem_take_iff_getElem.1 q;exact List.pairwise_iff_getElem.1 hn j i (by omega) h (by omega) e
theorem EM:cU []=[]:=rfl
def A7 (a:List Nat):List AV:=[.aE 1 (az a) a.length]
theorem uP (n:Nat) (a:List Nat):bw n (A7 a)=true:=by simp only [A7,bw,AV.wf,jb,SE]
@[go_sem] theorem My (n:Nat) (l:List (List Nat)):dz n (l.map A7)=true:=bA _ (uP n) _
def oe:Option oD->AV
 | some st=> .dA [.vp (gV st.rows st.ends), .v (.bool true)]
 | none=> .dA [.v (.pointer none), .v (.bool false)]
theorem FN (o:Option oD):(oe o).wf 0=true:=by
 cases o with
 | none=>rfl
 | some st=>simp only [oe,AV.wf,bw,gV,mH,mG,SE]
theorem lx (m:BitVec 32):(∀n∈ay m,n<100)∧(ay m).length<=1000:=by
 refine ⟨fun n hn=> ?_, ?_⟩
 ·rw [ay,List.mem_filter,List.mem_range] at hn;omega
 ·have:=List.length_filter_le m.getLsbD (List.range 32)
  rw [List.length_range] at this;rw [ay];omega
theorem yQ {s:cg} {a:List Nat} (h:Made (cV s) a):(∀n∈a,n<100)∧a.length<=1000:=by
 rcases h.2 with rfl|⟨cur,l,rfl⟩
 ·simp
 ·exact lx _
def gp (s:cg) (st:oD):List (Option aa):=[some ⟨75,1,false,[[.aE 1 (az (ay s.la)) (ay s.la).length]]⟩,some ⟨192,0,false,C7 (st.all.map iJ)⟩,none,none,some ⟨75,1,true,st.all.map A7⟩,some ⟨162,2,false,[[.vec 6 st.rows.length, .vec 7 st.rows.length]]⟩,some ⟨193,1,true,st.rows.map (fun r=>[.mp (cU r)])⟩,some ⟨4,1,true,st.ends.map (fun b=>[.v (.bool b)])⟩]
theorem JU {s:cg} (ok:Ja s) (ai:List ByteArray) (hn:ai.Nodup) (hl:ai.length<=1000) (hb:(ay s.la).length<=1000):ah Tryz.prog 114 [.vp (gh s),aS ai] (oe (sT (cV s) s.em (ay s.la) ai)):=by
 have CL:=Hg s ok.len;have CE:=EP s ok.len;have CK0:=IL [0] (by simp) (by simp);have e0:az [0]=[[.v (.int .i64 0)]]:=rfl;rw [e0] at CK0;simp only [QI,QC,Nat.reduceAdd] at CK0
 have hA:bw 0 [AV.vp (gh s),aS ai]=true:=by simp only [aS,bw,AV.wf,uR,aD,SE]
 have hF:=FN (sT (cV s) s.em (ay s.la) ai);generalize hrv:oe (sT (cV s) s.em (ay s.la) ai)=rv at hF ⊢
 (refine ah.yv Tryz.func114 rfl (by kernel_rfl) (by kernel_rfl) rfl hA hF ?_;simp only [Tryz.ntmps114,Tryz.results114,QI,QC,Nat.reduceAdd,Nat.reduceSub,SG,SH,SB,SA])
 repeat (first|(with_reducible first|refine af.up ?_|refine fun (K:AK) hK=> ?_|(refine hK _ ?_;clear hK K))|simp only [go_sem]|with_reducible refine wA ?_|clear hK K)
 refine ae.one CL ?_
 repeat (first|(with_reducible first|refine af.up ?_|refine fun (K:AK) hK=> ?_|(refine hK _ ?_;clear hK K))|simp only [go_sem]|with_reducible refine wA ?_|clear hK K)
 refine ae.xL CK0 8 rfl (by simp only [go_sem,Nat.reduceLT,Nat.reduceLeDiff,Nat.reduceEqDiff,SY,SZ,and_self]) rfl ?_
 repeat ((fail_if_success (with_reducible refine br (i:=5) ?_));first|(with_reducible first|refine af.up ?_|refine fun (K:AK) hK=> ?_|(refine hK _ ?_;clear hK K))|simp only [go_sem]|with_reducible refine wA ?_|clear hK K)
 refine aJ (cm (k:=4) (i:=0) (j:=0) (by decide) rfl (Nat.zero_lt_succ _) rfl rfl rfl rfl rfl) (by kernel_rfl) ?_;simp only [Se,Sd,QI,QC,Nat.reduceAdd,SB,SA];refine aJ (b7 (k:=5) (i:=0) (j:=0) 193 1 (by decide) rfl (by decide) rfl rfl) (by kernel_rfl) ?_;simp only [Se,Sd,QI,QC,Nat.reduceAdd,SB,SA];refine aJ (b7 (k:=5) (i:=0) (j:=1) 4 1 (by decide) rfl (by decide) rfl rfl) (by kernel_rfl) ?_;simp only [Se,Sd,QI,QC,Nat.reduceAdd,SB,SA]
 repeat (first|(with_reducible first|refine af.up ?_|refine fun (K:AK) hK=> ?_|(refine hK _ ?_;clear hK K))|simp only [go_sem]|with_reducible refine wA ?_|clear hK K)
 refine cM (ι:=oD) 10 (fun st=>[(8, .vec 4 st.all.length),(10, .v (.int .i64 st.rows.length))]) (gp s) (fun st=>257 - st.rows.length) (fun st=>C5 ai st∧(∀a∈st.all,Made (cV s) a)∧oe (qD (cV s) s.em (ay s.la) ai (257 - st.rows.length) st)=rv) s0
  ⟨JT ai,fun a ha=>by simp only [s0,List.mem_singleton] at ha;subst ha;exact ⟨by simp, .inl rfl⟩,hrv⟩ ?_ ?_
 ·simp only [gp,s0]
  (refine aj ?_ ?_ ?_<;>simp only [aT,R8,Sb,SG,SH,bj,bg,AV.v.injEq,Value.int.injEq,Value.bool.injEq,Value.string.injEq,AV.vec.injEq,AV.ptr.injEq,true_or,or_true,false_or,or_false,aa.mk.injEq,forall_eq_apply_imp_iff,forall_eq,forall_eq',go_sem])
  ·rfl
  ·exact ⟨rfl,rfl,uP _ _⟩
 ·rintro st ⟨hok,hmade,hrun⟩ K hK;have h257:=hok.max;have hel:=hok.ends;simp only [gp]
  repeat (first|(with_reducible first|refine af.up ?_|refine fun (K:AK) hK=> ?_|(refine hK _ ?_;clear hK K))|simp only [go_sem]|with_reducible refine wA ?_|clear hK K)
  refine cQ.part (fun h=> ?_) (fun h=> ?_)
  ·have hlt:st.rows.length<st.all.length:=by (try simp only [bne_iff_ne,ne_eq,bne_eq_false_iff_eq,beq_iff_eq,beq_eq_false_iff_ne,decide_eq_true_eq,decide_eq_false_iff_not,SI,SJ,SK,SL] at h);omega
   rw [show 257 - st.rows.length=(256 - st.rows.length)+1 by have:=hok.le;omega,qD,if_pos hlt] at hrun
   repeat (first|(with_reducible first|refine af.up ?_|refine fun (K:AK) hK=> ?_|(refine hK _ ?_;clear hK K))|simp only [go_sem,h]|with_reducible refine wA ?_|clear hK K)
   obtain ⟨hcm,hcl⟩:=yQ (hmade _ (ia (d:=[]) hlt));rw [<-ep] at hcm hcl
   refine cM (ι:=Nat) 38 (fun i=>[(8, .vec 4 (gw (cV s) (ep st) st.all (ai.take i)).1.length),(13, .undef),(14, .undef),(15, .undef),(16, .undef),(37, .v (.int .i64 i))]) (fun i=>gp s { st with all:=(gw (cV s) (ep st) st.all (ai.take i)).1 }++[some ⟨193,0,false,cU (gw (cV s) (ep st) st.all (ai.take i)).2⟩]) (fun i=>ai.length - i) (fun i=>i<=ai.length) 0 (Nat.zero_le _) ?_ ?_
   ·simp only [gp,S0,gw,Sb,EM,SB,SA]
    (refine aj ?_ ?_ ?_<;>simp only [aT,R8,Sb,SG,SH,bj,bg,AV.v.injEq,Value.int.injEq,Value.bool.injEq,Value.string.injEq,AV.vec.injEq,AV.ptr.injEq,true_or,or_true,false_or,or_false,aa.mk.injEq,forall_eq_apply_imp_iff,forall_eq,forall_eq',go_sem])
    all_goals rfl
   ·intro i hi K hK;obtain ⟨k1,k2,k3,k4,k5,t,k6⟩:=uF (cV s) (cur:=ep st) hok.nd (ai.take i);have hmd:=Cv (cV s) hmade (cur:=ep st) (ai.take i);have hlk: ∀l,l∉ai.take i->look (gw (cV s) (ep st) st.all (ai.take i)).2 l=none:=fun l hl=>si.2 fun q=>hl (k5.subset q)
    rcases hRi:gw (cV s) (ep st) st.all (ai.take i) with ⟨al,ro⟩
    rw [hRi] at k1 k2 k3 k4 k5 k6 hmd hlk;simp only at k1 k2 k3 k4 k5 k6 hmd hlk
    have hal:al.length<=2000:=by rw [List.length_take] at k4;omega
    simp only [gp,SB,SA]
    repeat (first|(with_reducible first|refine af.up ?_|refine fun (K:AK) hK=> ?_|(refine hK _ ?_;clear hK K))|simp only [go_sem]|with_reducible refine wA ?_|clear hK K)
    refine cQ.part (fun h2=> ?_) (fun h2=> ?_)
    ·have hli:i<ai.length:=by (try simp only [bne_iff_ne,ne_eq,bne_eq_false_iff_eq,beq_iff_eq,beq_eq_false_iff_ne,decide_eq_true_eq,decide_eq_false_iff_not,SI,SJ,SK,SL] at h2);omega
     have eW:=aM (k:=i) (by omega);have eG:=getD_map encS ai i [] hli
     have eC:(al.map A7).getD st.rows.length []=[.aE 1 (az (ep st)) (ep st).length]:=by
      have hx:al.getD st.rows.length []=ep st:=by rw [k6,fc hlt];rfl
      rw [Rw,List.getElem?_map,QS (by omega)];rw [Rw,QS (by omega)] at hx;simp only [Rb,Option.getD_some] at hx ⊢;rw [hx];rfl
     have hN:=kM (cV s) (ep st) st.all (ai.take i) ai[i];rw [<-List.take_succ_eq_append_getElem hli,hRi,As] at hN;have CS:=Ii ok (ep st) ai[i] (by omega);obtain ⟨ts,tl⟩:=lx (k9 s (jI s (pR (ep st))) ai[i]);have CKy:=IL (cV s (ep st) ai[i]) ts (by have:(cV s (ep st) ai[i]).length<=1000:=tl;omega);have tl':(cV s (ep st) ai[i]).length<=1000:=tl;generalize hto:cV s (ep st) ai[i]=to at *;simp only [encS] at eG
     repeat (first|(with_reducible first|refine af.up ?_|refine fun (K:AK) hK=> ?_|(refine hK _ ?_;clear hK K))|simp only [go_sem,eG,eC,h2]|with_reducible refine wA ?_|clear hK K)
     refine ae.one CS ?_
     repeat (first|(with_reducible first|refine af.up ?_|refine fun (K:AK) hK=> ?_|(refine hK _ ?_;clear hK K))|simp only [go_sem]|with_reducible refine wA ?_|clear hK K)
     refine cQ.part (fun h3=> ?_) (fun h3=> ?_)
     ·have hz:to=[]:=List.eq_nil_of_length_eq_zero (by (try simp only [bne_iff_ne,ne_eq,bne_eq_false_iff_eq,beq_iff_eq,beq_eq_false_iff_ne,decide_eq_true_eq,decide_eq_false_iff_not,SI,SJ,SK,SL] at h3);omega);rw [if_pos hz] at hN
      repeat (first|(with_reducible first|refine af.up ?_|refine fun (K:AK) hK=> ?_|(refine hK _ ?_;clear hK K))|simp only [go_sem,eW]|with_reducible refine wA ?_|clear hK K)
      refine aQ.mk (i+1) (by omega) (by omega) ?_;rw [hN];simp only [gp,SB,SA]
      (refine aj ?_ ?_ ?_<;>simp only [aT,R8,Sb,SG,SH,bj,bg,AV.v.injEq,Value.int.injEq,Value.bool.injEq,Value.string.injEq,AV.vec.injEq,AV.ptr.injEq,true_or,or_true,false_or,or_false,aa.mk.injEq,forall_eq_apply_imp_iff,forall_eq,forall_eq',go_sem])
     ·have hz: ¬to=[]:=fun e=>by subst e;simp at h3
      rw [if_neg hz] at hN;have eA:=Dy (iJ to) (al.map iJ)
      repeat (first|(with_reducible first|refine af.up ?_|refine fun (K:AK) hK=> ?_|(refine hK _ ?_;clear hK K))|simp only [go_sem]|with_reducible refine wA ?_|clear hK K)
      refine ae.one CKy ?_
      cases hp:pos (al.map iJ) (iJ to) with
      | some k=>
       rw [hp] at hN eA;simp only [Rb] at eA hN;have eS:=mP ai[i] k ro (hlk _ (ua hn hli))
       repeat (first|(with_reducible first|refine af.up ?_|refine fun (K:AK) hK=> ?_|(refine hK _ ?_;clear hK K))|simp only [go_sem,eA,eS,eW]|with_reducible refine wA ?_|clear hK K)
       refine aQ.mk (i+1) (by omega) (by omega) ?_;rw [hN];simp only [gp,SB,SA]
       (refine aj ?_ ?_ ?_<;>simp only [aT,R8,Sb,SG,SH,bj,bg,AV.v.injEq,Value.int.injEq,Value.bool.injEq,Value.string.injEq,AV.vec.injEq,AV.ptr.injEq,true_or,or_true,false_or,or_false,aa.mk.injEq,forall_eq_apply_imp_iff,forall_eq,forall_eq',go_sem])
      | none=>
       rw [hp] at hN eA;simp only [Option.map_none] at eA hN;have eS:=mP ai[i] al.length ro (hlk _ (ua hn hli));have eK:=DA (iJ to) (al.map iJ) hp;rw [Rv] at eK
       repeat (first|(with_reducible first|refine af.up ?_|refine fun (K:AK) hK=> ?_|(refine hK _ ?_;clear hK K))|simp only [go_sem,eA,eS,eW]|with_reducible refine wA ?_|clear hK K)
       refine ae.one CKy ?_
       repeat (first|(with_reducible first|refine af.up ?_|refine fun (K:AK) hK=> ?_|(refine hK _ ?_;clear hK K))|simp only [go_sem,eK,eS,eW]|with_reducible refine wA ?_|clear hK K)
       refine aQ.mk (i+1) (by omega) (by omega) ?_;rw [hN];simp only [gp,SB,SA,Ta,Tc,Ti,QH,QI,QC]
       (refine aj ?_ ?_ ?_<;>simp only [aT,R8,Sb,SG,SH,bj,bg,AV.v.injEq,Value.int.injEq,Value.bool.injEq,Value.string.injEq,AV.vec.injEq,AV.ptr.injEq,true_or,or_true,false_or,or_false,aa.mk.injEq,forall_eq_apply_imp_iff,forall_eq,forall_eq',go_sem])
       all_goals exact ⟨rfl,uP _ _⟩
    ·have hil:i=ai.length:=by (try simp only [bne_iff_ne,ne_eq,bne_eq_false_iff_eq,beq_iff_eq,beq_eq_false_iff_ne,decide_eq_true_eq,decide_eq_false_iff_not,SI,SJ,SK,SL] at h2);omega
     rw [hil,List.take_length] at hRi
     have hall:(dv (cV s) s.em (ay s.la) ai st).all=al:=by rw [dv,hRi]
     have hrow:(dv (cV s) s.em (ay s.la) ai st).rows=st.rows++[ro]:=by rw [dv,hRi]
     rw [hall] at hrun
     repeat (first|(with_reducible first|refine af.up ?_|refine fun (K:AK) hK=> ?_|(refine hK _ ?_;clear hK K))|simp only [go_sem]|with_reducible refine wA ?_|clear hK K)
     refine cQ.part (fun h3=> ?_) (fun h3=> ?_)
     ·rw [if_pos (by (try simp only [bne_iff_ne,ne_eq,bne_eq_false_iff_eq,beq_iff_eq,beq_eq_false_iff_ne,decide_eq_true_eq,decide_eq_false_iff_not,SI,SJ,SK,SL] at h3);omega)] at hrun
      repeat (first|(with_reducible first|refine af.up ?_|refine fun (K:AK) hK=> ?_|(refine hK _ ?_;clear hK K))|simp only [go_sem]|with_reducible refine wA ?_|clear hK K)
      rw [<-hrun];exact ej.dA ⟨ej.v _,ej.v _,trivial⟩
     ·have h256: ¬ 256<al.length:=by (try simp only [bne_iff_ne,ne_eq,bne_eq_false_iff_eq,beq_iff_eq,beq_eq_false_iff_ne,decide_eq_true_eq,decide_eq_false_iff_not,SI,SJ,SK,SL] at h3);omega
      rw [if_neg h256] at hrun
      repeat ((fail_if_success (with_reducible refine br (i:=24) ?_));first|(with_reducible first|refine af.up ?_|refine fun (K:AK) hK=> ?_|(refine hK _ ?_;clear hK K))|simp only [go_sem]|with_reducible refine wA ?_|clear hK K)
      refine aJ (zu 11 8 rfl rfl rfl rfl) (by kernel_rfl) ?_;simp only [Se,Sd]
      repeat ((fail_if_success (with_reducible refine br (i:=25) ?_));first|(with_reducible first|refine af.up ?_|refine fun (K:AK) hK=> ?_|(refine hK _ ?_;clear hK K))|simp only [go_sem]|with_reducible refine wA ?_|clear hK K)
      have CF:=oy (g:=153) [.vp [.aE 1 (az (ay s.la)) (ay s.la).length]] (by simp only [bw,AV.wf,jb,SE]) (fun n=>(ay s.la).contains n) (ep st) (by omega) (fun n=>Es (ay s.la) n (by omega))
      have eC:(al.map A7).getD st.rows.length []=[.aE 1 (az (ep st)) (ep st).length]:=by
       have hx:al.getD st.rows.length []=ep st:=by rw [k6,fc hlt];rfl
       rw [Rw,List.getElem?_map,QS (by omega)];rw [Rw,QS (by omega)] at hx;simp only [Rb,Option.getD_some] at hx ⊢;rw [hx];rfl
      have hE:xb s.em (ay s.la) st=(((st.rows.length:Int)==0&&s.em)||(ep st).any (fun n=>(ay s.la).contains n)):=by
       rw [xb];congr 2;rw [Bool.eq_iff_iff,beq_iff_eq,beq_iff_eq];omega
      refine o9 ⟨aT 112 [(0, .vp (gh s)),(1, .aE 1 (ai.map encS) ai.length),(4, .v (.pointer none)),(5, .v (.bool false)),(6, .ptr 0 0 1 0 0),(7, .vec 1 0),(8, .vec 4 al.length),(9, .ptr 5 0 2 0 0),(10, .v (.int .i64 st.rows.length))],gp s (dv (cV s) s.em (ay s.la) ai st), .no⟩ (by kernel_rfl) ?_ ?_
      ·have hO:gp s (dv (cV s) s.em (ay s.la) ai st)=gp s ⟨al,st.rows++[ro],st.ends++[xb s.em (ay s.la) st]⟩:=by rw [dv,hRi]
       rw [hO]
       rcases (SO ((st.rows.length:Int)==0)).symm with hZ|hZ
       ·have hE2:xb s.em (ay s.la) st=(ep st).any (fun n=>(ay s.la).contains n):=by rw [hE,hZ,Bool.false_and,Bool.false_or]
        simp only [gp,Ta,Tc,Ti,QH,QI,QC,hE2]
        (refine mT 20 88 9 (by kernel_rfl) (by decide+kernel) (by kernel_rfl) ?_;simp only [gb,Tc,Ti,Sy,SB,SA,Tm,Tn,S4,S0])
        repeat (first|(with_reducible first|refine af.up ?_|refine fun (K:AK) hK=> ?_|(refine hK _ ?_;clear hK K))|simp only [go_sem,eC,hZ]|with_reducible refine wA ?_|clear hK K)
        refine bc.xL CF 20 rfl (by simp only [go_sem,Nat.reduceLT,Nat.reduceLeDiff,Nat.reduceEqDiff,SY,SZ,and_self]) rfl ?_
        repeat (first|(with_reducible first|refine af.up ?_|refine fun (K:AK) hK=> ?_|(refine hK _ ?_;clear hK K))|simp only [go_sem,eC,hZ]|with_reducible refine wA ?_|clear hK K)
        (refine aj ?_ ?_ ?_<;>simp only [aT,R8,Sb,SG,SH,bj,bg,AV.v.injEq,Value.int.injEq,Value.bool.injEq,Value.string.injEq,AV.vec.injEq,AV.ptr.injEq,true_or,or_true,false_or,or_false,aa.mk.injEq,forall_eq_apply_imp_iff,forall_eq,forall_eq',go_sem])
       ·rcases (SO s.em).symm with hem|hem
        ·have hE2:xb s.em (ay s.la) st=(ep st).any (fun n=>(ay s.la).contains n):=by rw [hE,hZ,hem];simp
         simp only [gp,Ta,Tc,Ti,QH,QI,QC,hE2]
         (refine mT 20 88 9 (by kernel_rfl) (by decide+kernel) (by kernel_rfl) ?_;simp only [gb,Tc,Ti,Sy,SB,SA,Tm,Tn,S4,S0])
         repeat (first|(with_reducible first|refine af.up ?_|refine fun (K:AK) hK=> ?_|(refine hK _ ?_;clear hK K))|simp only [go_sem,eC,hZ]|with_reducible refine wA ?_|clear hK K)
         refine bc.one CE ?_
         repeat (first|(with_reducible first|refine af.up ?_|refine fun (K:AK) hK=> ?_|(refine hK _ ?_;clear hK K))|simp only [go_sem,eC,hem]|with_reducible refine wA ?_|clear hK K)
         refine bc.xL CF 20 rfl (by simp only [go_sem,Nat.reduceLT,Nat.reduceLeDiff,Nat.reduceEqDiff,SY,SZ,and_self]) rfl ?_
         repeat (first|(with_reducible first|refine af.up ?_|refine fun (K:AK) hK=> ?_|(refine hK _ ?_;clear hK K))|simp only [go_sem,eC,hem]|with_reducible refine wA ?_|clear hK K)
         (refine aj ?_ ?_ ?_<;>simp only [aT,R8,Sb,SG,SH,bj,bg,AV.v.injEq,Value.int.injEq,Value.bool.injEq,Value.string.injEq,AV.vec.injEq,AV.ptr.injEq,true_or,or_true,false_or,or_false,aa.mk.injEq,forall_eq_apply_imp_iff,forall_eq,forall_eq',go_sem])
        ·have hE2:xb s.em (ay s.la) st=true:=by rw [hE,hZ,hem];simp
         simp only [gp,Ta,Tc,Ti,QH,QI,QC,hE2]
         (refine mT 20 88 9 (by kernel_rfl) (by decide+kernel) (by kernel_rfl) ?_;simp only [gb,Tc,Ti,Sy,SB,SA,Tm,Tn,S4,S0])
         repeat (first|(with_reducible first|refine af.up ?_|refine fun (K:AK) hK=> ?_|(refine hK _ ?_;clear hK K))|simp only [go_sem,eC,hZ]|with_reducible refine wA ?_|clear hK K)
         refine bc.one CE ?_
         repeat (first|(with_reducible first|refine af.up ?_|refine fun (K:AK) hK=> ?_|(refine hK _ ?_;clear hK K))|simp only [go_sem,eC,hem]|with_reducible refine wA ?_|clear hK K)
         (refine aj ?_ ?_ ?_<;>simp only [aT,R8,Sb,SG,SH,bj,bg,AV.v.injEq,Value.int.injEq,Value.bool.injEq,Value.string.injEq,AV.vec.injEq,AV.ptr.injEq,true_or,or_true,false_or,or_false,aa.mk.injEq,forall_eq_apply_imp_iff,forall_eq,forall_eq',go_sem])
      ·have hlen:(dv (cV s) s.em (ay s.la) ai st).rows.length=st.rows.length+1:=by rw [hrow,QH,List.length_singleton]
       have eW:=aM (k:=st.rows.length) (by omega);obtain ⟨nx,hnx⟩: ∃nx,nx=dv (cV s) s.em (ay s.la) ai st:=⟨_,rfl⟩;have hnok:C5 ai nx:=hnx ▸ qC (cV s) s.em (ay s.la) hok hlt (by rw [hall];exact h256);rw [<-hnx] at hrun hlen hall ⊢;simp only [gp];simp only [aT,R8,Sb,SG,SH,go_sem]
       repeat (first|(with_reducible first|refine af.up ?_|refine fun (K:AK) hK=> ?_|(refine hK _ ?_;clear hK K))|simp only [go_sem,eW]|with_reducible refine wA ?_|clear hK K)
       refine aQ.mk nx ⟨hnok,by rw [hall];exact hmd,by rw [hlen,show 257 - (st.rows.length+1)=256 - st.rows.length by omega];exact hrun⟩ (by rw [hlen];have:=hok.le;omega) ?_;simp only [gp,hall,hlen]
       (refine aj ?_ ?_ ?_<;>simp only [aT,R8,Sb,SG,SH,bj,bg,AV.v.injEq,Value.int.injEq,Value.bool.injEq,Value.string.injEq,AV.vec.injEq,AV.ptr.injEq,true_or,or_true,false_or,or_false,aa.mk.injEq,forall_eq_apply_imp_iff,forall_eq,forall_eq',go_sem])
  ·have hge:st.rows.length=st.all.length:=by have:=hok.le;(try simp only [bne_iff_ne,ne_eq,bne_eq_false_iff_eq,beq_iff_eq,beq_eq_false_iff_ne,decide_eq_true_eq,decide_eq_false_iff_not,SI,SJ,SK,SL] at h);omega
   rw [show 257 - st.rows.length=(256 - st.rows.length)+1 by omega,qD,if_neg (by omega)] at hrun;have hel:=hok.ends
   repeat (first|(with_reducible first|refine af.up ?_|refine fun (K:AK) hK=> ?_|(refine hK _ ?_;clear hK K))|simp only [go_sem]|with_reducible refine wA ?_|clear hK K)
   rw [<-hrun];simp only [oe,gV,hel];exact ej.dA ⟨ej.ptr (ob:=⟨162,2,false,[[.vec 6 st.rows.length, .vec 7 st.rows.length]]⟩) rfl rfl rfl (Nat.succ_ne_zero 1) ⟨ej.Mx (ob:=⟨193,1,true,st.rows.map (fun r=>[.mp (cU r)])⟩) rfl rfl (Rv _) (mH _ _),ej.Mx (ob:=⟨4,1,true,st.ends.map (fun b=>[.v (.bool b)])⟩) rfl rfl ((Rv _).trans hel) (mG _ _),trivial⟩,ej.v _,trivial⟩
end Go.Proofs.YtjcobjgjjlahdaaGreatDoor
