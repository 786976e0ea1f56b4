/- texts of one claim, one behind the other. -/
import Derived.Test.YtfflpdekojlnmaaGreatDoorXOpenX
import Derived.Test.YtfflpdekojlnmaaGreatDoorXDfaR
import Derived.Test.YtfflpdekojlnmaaGreatDoorXLang
import Derived.Shelf.Strconv.Itoa3
import Derived.Shelf.Strings.BuilderK
import Derived.Lib.AppendIntMem
set_option linter.unusedSimpArgs false
set_option linter.unusedVariables false
set_option maxRecDepth 100000
set_option maxHeartbeats 16000000
open BitVec renaming getLsbD_or -> Wh, getLsbD_and -> VY
open Bool renaming or_eq_true -> Vl, true_and -> Vq, and_self -> Wc, false_eq_true -> Vu, and_eq_true -> UW, eq_iff_iff -> Wm
open List renaming map_cons -> Wa, cons_append -> VK, take_succ_eq_append_getElem -> Wg, map_nil -> Wi, nil_append -> VJ, take_append_drop -> Wj, length_append -> Ug, drop_eq_getElem_cons -> Vd, getElem_mem -> Vx, getD_eq_getElem?_getD -> U3, foldl_append -> V5, foldl_cons -> VN, mem_cons -> Vt, take_of_length_le -> Wl, length_cons -> Uh, eq_nil_of_length_eq_zero -> UM, exists_mem_of_ne_nil -> Wn, mem_cons_of_mem -> U8, mem_cons_self -> Va, eq_nil_iff_forall_not_mem -> Wo, getElem?_eq_getElem -> Uq
open Option renaming map_eq_some_iff -> UQ
namespace Go.Proofs.YtfflpdekojlnmaaGreatDoor
open Go.RowKit
theorem Kz {l:List Nat} {k:Nat} {x:List AV} (h:(aI l)[k]? = some x): ∃hk:k<l.length,x=[.v (.int .i64 (l[k]:Nat))]:=by
 obtain ⟨h1,h2⟩:=List.getElem?_eq_some_iff.1 h;simp only [aI,List.length_map] at h1;exact ⟨h1,by rw [<-h2];simp [aI]⟩
theorem iL {n0:Nat} {Q:a7->AS->Prop} {t:List AV} {o:List (Option aa)} {y:jk} {g:Operand} {ps:Array Tmp} {assign body:Code} (m:BitVec 32) (id:Nat) (ho:o[id]? = some (some (nH m))) (mm:Nat) (O:Nat->List (Option aa)) (ok:Nat->Prop) (h0:ok 0)
  (hg:(AS.mk t o y).ev g = .fn 138 [] [.ptr id 0 1 0 0]) (hdead:(O 0)[id]? = some none) (hwk:Wk n0 ⟨t,o,y⟩ ⟨cH mm t,O 0,y⟩) (hA:b5 assign=true) (hB:b5 body=true) (hps:ps.size=1)
  (hround: ∀k (hk:k<(aq m).length),ok k->cr Tryz.prog (O 0).length assign ⟨iB ps.toList [.v (.int .i64 ((aq m)[k]:Nat))] (cH mm t),O k,y⟩ (pF Tryz.prog (O 0).length body (ov (O 0).length (cH mm t) (ok (k+1)) (O (k+1)) y Q)))
  (hfin:ok (aq m).length->Q .normal ⟨cH mm t,O (aq m).length,y⟩):cr Tryz.prog n0 (.rangeFunc g ps assign body) ⟨t,o,y⟩ Q:=by
 have hl:(aI (aq m)).length=(aq m).length:=by simp [aI]
 refine rV (J9 m) [id] (by simp) ?_ ?_ O (fun _=>y) ok h0 (cH mm t) ?_ (by rfl) ?_ hwk hA hB ?_ ?_ (by rw [hl];exact hfin)
 ·simp only [Wa,List.map_nil,ho,Option.map_some];rfl
 ·intro k ob hk
  match k,hk with
  | 0,hk=>cases hk;rfl
  | k+1,hk=>simp at hk
 ·rw [hg];rfl
 ·intro i hi ob
  obtain rfl:i=id:=by simpa using hi
  rw [hdead];intro h;cases h
 ·intro x hx;obtain ⟨p,_,rfl⟩:=List.mem_map.1 hx;exact hps.symm
 ·intro k x hk hx;obtain ⟨hlt,rfl⟩:=Kz hx;exact hround k hlt hk
def ofM (p:Int):BitVec 32:=if 0<=p∧p<=24 then 1#32 <<< p.toNat else 0#32
theorem o6 {p:Int} {i:Nat}:(ofM p).getLsbD i=decide (0<=p∧p<=24∧i=p):=by
 rw [ofM]
 split
 ·rename_i h;rw [BitVec.getLsbD_shiftLeft,BitVec.getLsbD_one,Bool.eq_iff_iff];simp;omega
 ·rename_i h;rw [BitVec.getLsbD_zero,eq_comm,decide_eq_false_iff_not];omega
theorem NH (p:Int):ar Tryz.prog 83 [.v (.int .i64 p)] (aM (ofM p)):=by
 have hS:0<=p∧p<=24->IntKind.u32.wrap (1 * 2 ^ min p.toNat 32)=((ofM p).toNat:Nat):=fun h=>by
  have e:min p.toNat 32=p.toNat:=by omega
  rw [ofM,if_pos h,e,La]
 have hZ: ¬(0<=p∧p<=24)->ofM p=0#32:=fun h=>by rw [ofM,if_neg h]
 simp only [aM]
 rcases Int.lt_or_le p 0 with h1|h1
 ·have b1:decide (p<0)=true:=decide_eq_true h1;rw [hZ (by omega)];refine gE Tryz.func83 Tryz.ntmps83 Tryz.results83 ?_;refine u5 b1 ?_
  rfl
 ·have b1:decide (p<0)=false:=decide_eq_false (by omega)
  rcases Int.lt_or_le 24 p with h2|h2
  ·have b2:decide (24<p)=true:=decide_eq_true h2;rw [hZ (by omega)];refine gE Tryz.func83 Tryz.ntmps83 Tryz.results83 ?_;refine CM b1 b2 ?_
   rfl
  ·have b2:decide (24<p)=false:=decide_eq_false (by omega);have e:=hS ⟨h1,h2⟩;have e0:(0<=p)=True:=eq_true h1;refine gE Tryz.func83 Tryz.ntmps83 Tryz.results83 ?_
   repeat (first|(with_reducible first|refine aA.up ?_|refine fun (K:AK) hK=> ?_|(refine hK _ ?_;clear hK K))|simp only [go_sem,b1,b2,e,e0,Go.undef]|with_reducible refine wA ?_|clear hK K)
theorem H5 (m:BitVec 32):ar Tryz.prog 88 [aM m] (.aC 1 (aI (aq m)) (aq m).length):=by
 have A:=pw m;have hb:=Ec m;simp only [nH,aM] at *;refine gE Tryz.func88 Tryz.ntmps88 Tryz.results88 ?_
 (refine au ?_;intro K hK K hK K hK)
 refine ab.fr [] A (by simp) ?_ ?_ ?_ ?_ ?_
 ·rfl
 ·rfl
 ·rfl
 ·intro k ob hk;simp at hk
 ((iterate 3 revert K);refine au ?_;intro K hK)
 refine uQ (dD (k:=0) (i:=0) (j:=0) 3 1 (by decide) rfl (by decide) rfl rfl) (by kernel_rfl) ?_;simp only [List.length_cons,List.length_nil,Nat.reduceAdd,VK,List.nil_append,List.set_cons_zero]
 refine iL m 1 rfl 3 (fun k=>[some ⟨79,1,false,[[.vec 2 k]]⟩,none,some ⟨3,1,true,aI ((aq m).take k)⟩]) (fun _=>True) trivial ?_ rfl ?_ (by kernel_rfl) (by kernel_rfl) rfl ?_ ?_
 ·rfl
 ·refine qI ?_ aj
  rfl
 ·intro k hk _
  have eS:aI ((aq m).take (k+1))=aI ((aq m).take k)++[[.v (.int .i64 ((aq m)[k]:Nat))]]:=by rw [Wg hk,aI,List.map_append];rfl
  have eL:(aI ((aq m).take k)).length=k:=by simp [aI];omega
  repeat (first|(with_reducible first|refine aA.up ?_|refine fun (K:AK) hK=> ?_|(refine hK _ ?_;clear hK K))|simp only [go_sem]|with_reducible refine wA ?_|clear hK K)
  rw [eS];exact aO aj
 ·intro _;have e1:(aq m).take (aq m).length=aq m:=List.take_length
  have eL:(aI (aq m)).length=(aq m).length:=by simp [aI]
  (revert K;refine aK e1 ?_)
  rw [<-eL]
  (refine jB.of 40 rfl ?_;simp only [go_sem])
  trace_state
structure bP where
 labs:List ByteArray
 fs:List (BitVec 32)
 la:BitVec 32
 em:Bool
def bP.row (i:Nat) (s:bP):List AV:= .vec i s.labs.length :: (s.fs.map aM++[aM s.la, .v (.bool s.em)])
def bP.os (s:bP):List (Option aa):=[some ⟨99,28,false,[s.row 1]⟩,some ⟨9,1,true,s.labs.map encS⟩]
def ER (b:BitVec 32) (fs:List (BitVec 32)) (p:Nat):List (BitVec 32):=fs.set p (fs.getD p 0#32 ||| b)
def lF (b:BitVec 32) (l:List Nat) (fs:List (BitVec 32)):List (BitVec 32):=l.foldl (ER b) fs
theorem oW (b:BitVec 32): ∀(l:List Nat) (fs:List (BitVec 32)),(lF b l fs).length=fs.length
 | [],fs=>rfl
 | p :: l,fs=>by rw [lF,List.foldl_cons, <- lF,oW b l,ER,List.length_set]
theorem ES (b:BitVec 32) (l:List Nat) (p:Nat) (fs:List (BitVec 32)):lF b (l++[p]) fs=ER b (lF b l fs) p:=by
 rw [lF,List.foldl_append];rfl
theorem CH {fs:List (BitVec 32)} {l:AV} {X:List AV} {p:Nat} (h:p<fs.length): ∃r,(l :: (fs.map aM++X)).drop (1+p * 1)=aM (fs.getD p 0#32) :: r:=by
 refine ⟨(fs.map aM++X).drop (p+1), ?_⟩;rw [Nat.mul_one,Nat.add_comm,List.drop_succ_cons,List.drop_eq_getElem_cons (by simp;omega),List.getElem_append_left (by simpa using h),List.getElem_map];simp [List.getD,h]
theorem Nc {fs:List (BitVec 32)} {l:AV} {X:List AV} {p:Nat} (x:BitVec 32) (h:p<fs.length):(l :: (fs.map aM++X)).take (1+p * 1)++aM x :: (fs.map aM++X).drop (1+p * 1)=l :: ((fs.set p x).map aM++X):=by
 rw [Nat.mul_one,Nat.add_comm,List.take_succ_cons,VK,List.map_set, <- List.set_append_left p (aM x) (by simpa using h),List.set_eq_take_append_cons_drop,if_pos (by simp;omega)]
theorem B5 (n:Nat) (fs:List (BitVec 32)) (x y:Value):aX n (fs.map aM++[.v x, .v y])=true:=by
 induction fs with
 | nil=>rfl
 | cons z l ih=>simp only [Wa,VK,aX,aM,AV.wf,Bool.true_and];exact ih
theorem xK (f:Nat->Nat) (fs:List (BitVec 32)) (x y:Value):bS f (fs.map aM++[.v x, .v y])=fs.map aM++[.v x, .v y]:=by
 induction fs with
 | nil=>rfl
 | cons z l ih=>simp only [Wa,VK,bS,ih];rfl
attribute [go_sem] B5 xK
theorem H4 (s:bP) (a b:BitVec 32) (hl:s.fs.length=25) (ha: ∀p,p∈aq a->p<25) :
  dN Tryz.prog 85 [.ptr 0 0 28 0 0,aM a,aM b] s.os (.cL []) (bP.os { s with fs:=lF b (aq a) s.fs }):=by
 have A:=pw a;obtain ⟨labs,fs,la,em⟩:=s;simp only [bP.os,bP.row,nH] at *;simp only [aM] at A;simp only [aM];refine gF Tryz.func85 Tryz.ntmps85 Tryz.results85 ?_
 (refine dO ?_;intro K hK K hK)
 refine ab.fr [] A (by simp) ?_ ?_ ?_ ?_ ?_
 ·rfl
 ·rfl
 ·rfl
 ·intro k ob hk;simp at hk
 (revert K;revert K;refine dO ?_)
 refine iL a 4 (by simp only [nH,aM];rfl) 6 (fun k=>[some ⟨99,28,false,[.vec 1 labs.length :: ((lF b ((aq a).take k) fs).map aM++[.v (.int .u32 la.toNat), .v (.bool em)])]⟩,some ⟨9,1,true,labs.map encS⟩,some ⟨61,1,false,[[.ptr 0 0 28 0 0]]⟩,some ⟨96,1,false,[[.v (.int .u32 b.toNat)]]⟩,none]) (fun _=>True) trivial ?_ rfl ?_ (by kernel_rfl) (by kernel_rfl) rfl ?_ ?_
 ·rfl
 ·refine qI ?_ aj
  rfl
 ·intro k hk _;have hp:=ha _ (List.getElem_mem hk);rw [Wg hk,ES,ER]
  have hL:(lF b ((aq a).take k) fs).length=25:=by rw [oW];exact hl
  generalize lF b ((aq a).take k) fs=F at *;generalize (aq a)[k]=p at *;obtain ⟨r,eD⟩:=CH (l:= .vec 1 labs.length) (X:=[.v (.int .u32 la.toNat), .v (.bool em)]) (fs:=F) (p:=p) (by omega);have eS:=Nc (l:= .vec 1 labs.length) (X:=[.v (.int .u32 la.toNat), .v (.bool em)]) (fs:=F) (p:=p) (F.getD p 0#32 ||| b) (by omega);have eT:(p:Int).toNat=p:=Int.toNat_natCast p
  have eB:0<=(p:Int)∧(p:Int)<25:=by omega
  simp only [aM] at eD eS
  repeat (first|(with_reducible first|refine aA.up ?_|refine fun (K:AK) hK=> ?_|refine wE ?_|refine wK ?_|refine wF ?_|(refine hK _ ?_;clear hK K))|simp only [go_sem,eD,kT]|with_reducible refine wA ?_|clear hK K)
  rw [eS];exact aO aj
 ·intro _;have e1:(aq a).take (aq a).length=aq a:=List.take_length;refine kb e1 ?_
  (refine ⟨?_, ?_, ?_⟩<;>simp only [dt,kE,AV.v.injEq,Value.int.injEq,Value.bool.injEq,Value.string.injEq,AV.vec.injEq,AV.ptr.injEq,true_or,or_true,false_or,or_false,aa.mk.injEq,forall_eq_apply_imp_iff,forall_eq,forall_eq',go_sem])
structure JF where
 st:bP
 op:Bool
 ends:BitVec 32
 first:BitVec 32
def cA (x:Ex) (b:bP×BitVec 32×BitVec 32) (r:JF):JF:=
 ⟨{ b.1 with fs:=lF b.2.1 (aq r.ends) b.1.fs },if aG x then r.op else false,(if aG x then r.ends else 0#32) ||| b.2.2,if r.op then r.first ||| b.2.1 else r.first⟩
mutual
def oH:Ex->bP->bP×BitVec 32×BitVec 32
 | .mk k s l,st=>
  if k=1 then ({ st with labs:=st.labs++[s] },ofM ((st.labs.length+1:Nat):Int),ofM ((st.labs.length+1:Nat):Int))
  else if k=2 then ((gq l ⟨st,true,0#32,0#32⟩).st,(gq l ⟨st,true,0#32,0#32⟩).first,(gq l ⟨st,true,0#32,0#32⟩).ends)
  else if k=4∨k=5 then ({ (fp l (st,0#32,0#32)).1 with fs:=lF (fp l (st,0#32,0#32)).2.1 (aq (fp l (st,0#32,0#32)).2.2) (fp l (st,0#32,0#32)).1.fs },(fp l (st,0#32,0#32)).2.1,(fp l (st,0#32,0#32)).2.2)
  else fp l (st,0#32,0#32)
def gq:List Ex->JF->JF
 | [],r=>r
 | x :: xs,r=>gq xs (cA x (oH x r.st) r)
def fp:List Ex->bP×BitVec 32×BitVec 32->bP×BitVec 32×BitVec 32
 | [],r=>r
 | x :: xs,r=>fp xs ((oH x r.1).1,r.2.1 ||| (oH x r.1).2.1,r.2.2 ||| (oH x r.1).2.2)
end
theorem yw: ∀(l m:List Ex) (r:JF),gq (l++m) r=gq m (gq l r)
 | [],m,r=>by simp [gq]
 | x :: l,m,r=>by simp only [VK,gq];exact yw l m _
theorem yv: ∀(l m:List Ex) (r:bP×BitVec 32×BitVec 32),fp (l++m) r=fp m (fp l r)
 | [],m,r=>by simp [fp]
 | x :: l,m,r=>by simp only [VK,fp];exact yv l m _
theorem pX {fs:List (BitVec 32)} {p q:Nat} {x:BitVec 32} (h:p<fs.length):(fs.set p x).getD q 0#32=if q=p then x else fs.getD q 0#32:=by
 simp only [List.getD,List.getElem?_set]
 by_cases e:p=q
 ·subst e;simp [h]
 ·rw [if_neg e,if_neg (fun h=>e h.symm)]
theorem s8 {b:BitVec 32}: ∀ {l:List Nat} {fs:List (BitVec 32)} {p q:Nat},(∀j∈l,j<fs.length)->(((lF b l fs).getD p 0#32).getLsbD q=true↔(fs.getD p 0#32).getLsbD q=true∨(p∈l∧b.getLsbD q=true))
 | [],fs,p,q,_=>by simp [lF]
 | j :: l,fs,p,q,hl=>by
  have hj:j<fs.length:=hl j (by simp);rw [lF,List.foldl_cons, <- lF,s8 (fun k hk=>by rw [ER,List.length_set];exact hl k (by simp [hk])),ER,pX hj,List.mem_cons]
  by_cases e:p=j
  ·subst e;simp only [if_true,Wh,Vl,true_or,true_and]
   constructor
   ·rintro ((h|h)|⟨_,h⟩)
    ·exact .inl h
    ·exact .inr h
    ·exact .inr h
   ·rintro (h|h)
    ·exact .inl (.inl h)
    ·exact .inl (.inr h)
  ·rw [if_neg e];simp [e]
structure MM (x:Ex) (st:bP) (r:bP×BitVec 32×BitVec 32):Prop where
 labs:r.1.labs=st.labs++aB x
 len:r.1.fs.length=25
 la:r.1.la=st.la
 em:r.1.em=st.em
 fst: ∀p,r.2.1.getLsbD p=true↔jN x st.labs.length p
 vw: ∀p,r.2.2.getLsbD p=true↔jd x st.labs.length p
 qD: ∀p q,(r.1.fs.getD p 0#32).getLsbD q=true↔(st.fs.getD p 0#32).getLsbD q=true∨iI x st.labs.length p q
structure Rx (l:List Ex) (r R:JF):Prop where
 labs:R.st.labs=r.st.labs++aJ l
 len:R.st.fs.length=25
 la:R.st.la=r.st.la
 em:R.st.em=r.st.em
 op:R.op=(r.op&&cz l)
 fst: ∀p,R.first.getLsbD p=true↔r.first.getLsbD p=true∨(r.op=true∧gp l r.st.labs.length p)
 vw: ∀p,R.ends.getLsbD p=true↔(cz l=true∧r.ends.getLsbD p=true)∨jj l r.st.labs.length p
 qD: ∀p q,(R.st.fs.getD p 0#32).getLsbD q=true↔(r.st.fs.getD p 0#32).getLsbD q=true∨gn l r.st.labs.length p q∨(r.ends.getLsbD p=true∧gp l r.st.labs.length q)
structure Rt (l:List Ex) (r R:bP×BitVec 32×BitVec 32):Prop where
 labs:R.1.labs=r.1.labs++aJ l
 len:R.1.fs.length=25
 la:R.1.la=r.1.la
 em:R.1.em=r.1.em
 fst: ∀p,R.2.1.getLsbD p=true↔r.2.1.getLsbD p=true∨fN l r.1.labs.length p
 vw: ∀p,R.2.2.getLsbD p=true↔r.2.2.getLsbD p=true∨fO l r.1.labs.length p
 qD: ∀p q,(R.1.fs.getD p 0#32).getLsbD q=true↔(r.1.fs.getD p 0#32).getLsbD q=true∨gS l r.1.labs.length p q
theorem rZ: ∀(l:List Ex) (r:JF),(∀x∈l, ∀st,st.fs.length=25->st.labs.length+(aB x).length<=24->MM x st (oH x st))->r.st.fs.length=25->(∀p∈aq r.ends,p<25)->r.st.labs.length+(aJ l).length<=24->Rx l r (gq l r)
 | [],r,_,hf,he,hb=>by
  rw [gq];exact ⟨by simp [aJ],hf,rfl,rfl,by simp [cz],fun p=>by simp [gp],fun p=>by simp [jj,cz],fun p q=>by simp [gn,gp]⟩
 | x :: xs,r,hx,hf,he,hb=>by
  rw [aJ,List.length_append] at hb;have B:=hx x (by simp) r.st hf (by omega);generalize hbx:oH x r.st=b at B
  have hlen:(r.st.labs++aB x).length=r.st.labs.length+(aB x).length:=by simp
  have hends: ∀p∈aq ((cA x b r).ends),p<25:=fun p hp=>by
   have:=aW.1 hp
   simp only [cA] at this;rw [Wh,Vl,B.vw] at this
   rcases this with h|h
   ·split at h
    ·exact he p (aW.2 h)
    ·simp at h
   ·have:=fA x h;omega
  have S:=rZ xs (cA x b r) (fun y hy=>hx y (by simp [hy])) (by simp only [cA,oW];exact B.len) hends (by simp only [cA,B.labs,hlen];omega)
  have hfol: ∀p q,((cA x b r).st.fs.getD p 0#32).getLsbD q=true↔((r.st.fs.getD p 0#32).getLsbD q=true∨iI x r.st.labs.length p q)∨(r.ends.getLsbD p=true∧jN x r.st.labs.length q):=fun p q=>by
   show ((lF _ _ _).getD p 0#32).getLsbD q=true↔_;rw [s8 (fun j hj=>by rw [B.len];exact he j hj),B.qD,B.fst,aW]
  have hl2:(cA x b r).st.labs.length=r.st.labs.length+(aB x).length:=by simp only [cA,B.labs,hlen]
  have hE: ∀p,(cA x b r).ends.getLsbD p=true↔(aG x=true∧r.ends.getLsbD p=true)∨jd x r.st.labs.length p:=fun p=>by
   simp only [cA];rw [Wh,Vl,B.vw];cases aG x<;>simp
  have hF: ∀p,(cA x b r).first.getLsbD p=true↔r.first.getLsbD p=true∨(r.op=true∧jN x r.st.labs.length p):=fun p=>by
   simp only [cA]
   cases r.op
   ·simp
   ·simp only [if_true,Wh,Vl,B.fst,true_and]
  have hO:(cA x b r).op=(r.op&&aG x):=by simp only [cA];cases r.op<;>cases aG x<;>rfl
  rw [gq,hbx]
  refine ⟨?_,S.len, ?_, ?_, ?_,fun p=> ?_,fun p=> ?_,fun p q=> ?_⟩
  ·rw [S.labs];simp only [cA];rw [B.labs,aJ,List.append_assoc]
  ·rw [S.la];exact B.la
  ·rw [S.em];exact B.em
  ·rw [S.op,hO,cz,Bool.and_assoc]
  ·rw [S.fst,hF,hO,hl2,gp];grind
  ·rw [S.vw,hE,hl2,jj,cz];grind
  ·rw [S.qD,hfol,hE,hl2,gp,gn];grind
theorem rY: ∀(l:List Ex) (r:bP×BitVec 32×BitVec 32),(∀x∈l, ∀st,st.fs.length=25->st.labs.length+(aB x).length<=24->MM x st (oH x st))->r.1.fs.length=25->r.1.labs.length+(aJ l).length<=24->Rt l r (fp l r)
 | [],r,_,hf,hb=>by
  rw [fp];exact ⟨by simp [aJ],hf,rfl,rfl,fun p=>by simp [fN],fun p=>by simp [fO],fun p q=>by simp [gS]⟩
 | x :: xs,r,hx,hf,hb=>by
  rw [aJ,List.length_append] at hb;have B:=hx x (by simp) r.1 hf (by omega);rw [fp];generalize oH x r.1=b at B ⊢
  have hlen:b.1.labs.length=r.1.labs.length+(aB x).length:=by rw [B.labs];simp
  have A:=rY xs (b.1,r.2.1 ||| b.2.1,r.2.2 ||| b.2.2) (fun y hy=>hx y (by simp [hy])) B.len (by rw [hlen];omega)
  refine ⟨?_,A.len, ?_, ?_,fun p=> ?_,fun p=> ?_,fun p q=> ?_⟩
  ·rw [A.labs,B.labs,aJ,List.append_assoc]
  ·rw [A.la];exact B.la
  ·rw [A.em];exact B.em
  ·rw [A.fst,hlen,fN,Wh,Vl,B.fst];grind
  ·rw [A.vw,hlen,fO,Wh,Vl,B.vw];grind
  ·rw [A.qD,hlen,gS,B.qD];grind
theorem oJ (x:Ex): ∀st:bP,st.fs.length=25->st.labs.length+(aB x).length<=24->MM x st (oH x st):=by
 induction x using Ex.ind with
 | h k s l ih=>
  intro st hf hb
  by_cases h1:k=1
  ·subst h1
   have hl:aB (.mk 1 s l)=[s]:=by rw [aB,if_pos rfl]
   rw [hl] at hb;simp only [List.length_singleton] at hb
   have hp: ∀p,(ofM ((st.labs.length+1:Nat):Int)).getLsbD p=true↔p=st.labs.length+1:=fun p=>by
    rw [o6,decide_eq_true_eq];omega
   rw [oH,if_pos rfl];exact ⟨by rw [hl],hf,rfl,rfl,fun p=>by rw [jN,if_pos rfl];exact hp p,fun p=>by rw [jd,if_pos rfl];exact hp p,fun p q=>by rw [iI,if_pos rfl,or_false]⟩
  ·rw [cK h1] at hb;rw [oH,if_neg h1]
   by_cases h2:k=2
   ·subst h2;rw [if_pos rfl];have S:=rZ l ⟨st,true,0#32,0#32⟩ ih hf (by rw [kK];intro p hp;cases hp) hb
    refine ⟨by rw [cK h1];exact S.labs,S.len,S.la,S.em,fun p=> ?_,fun p=> ?_,fun p q=> ?_⟩
    ·rw [jN,if_neg h1,if_pos rfl,S.fst];simp
    ·rw [jd,if_neg h1,if_pos rfl,S.vw];simp
    ·rw [iI,if_neg h1,if_pos rfl,S.qD];simp
   ·rw [if_neg h2];have A:=rY l (st,0#32,0#32) ih hf hb
    have hF: ∀p,jN (.mk k s l) st.labs.length p↔fN l st.labs.length p:=fun p=>by rw [jN,if_neg h1,if_neg h2]
    have hL: ∀p,jd (.mk k s l) st.labs.length p↔fO l st.labs.length p:=fun p=>by rw [jd,if_neg h1,if_neg h2]
    have aF: ∀p,(fp l (st,0#32,0#32)).2.1.getLsbD p=true↔fN l st.labs.length p:=fun p=>by rw [A.fst];simp
    have aL: ∀p,(fp l (st,0#32,0#32)).2.2.getLsbD p=true↔fO l st.labs.length p:=fun p=>by rw [A.vw];simp
    by_cases h4:k=4∨k=5
    ·rw [if_pos h4];refine ⟨by rw [cK h1];exact A.labs,by rw [oW];exact A.len,A.la,A.em,fun p=>by rw [hF,aF],fun p=>by rw [hL,aL],fun p q=> ?_⟩;show ((lF _ _ _).getD p 0#32).getLsbD q=true↔_
     rw [s8 (fun j hj=>by
      have:=fm ((aL j).1 (aW.1 hj))
      rw [A.len];omega),A.qD,aF,aW,aL,iI,if_neg h1,if_neg h2]
     grind
    ·rw [if_neg h4];refine ⟨by rw [cK h1];exact A.labs,A.len,A.la,A.em,fun p=>by rw [hF,aF],fun p=>by rw [hL,aL],fun p q=> ?_⟩;rw [A.qD,iI,if_neg h1,if_neg h2]
     grind
theorem qh (f:Nat->Nat) (l:List ByteArray):cF f (l.map encS)=l.map encS:=by
 induction l with
 | nil=>rfl
 | cons x l ih=>simp only [Wa,cF,ih];rfl
theorem bP.IM (s:bP) (n:Nat):s.os.map (fun x=>some (x.map (aa.bd (sig [0,1] n))))=s.os.map some:=by
 simp only [bP.os,bP.row,aM,Wa,Wi,Option.map_some,aa.bd,cF,bS,AV.bd,xK,qh]
 rfl
theorem ab.Oz {P:Program} {f:FuncId} {args:List AV} {s s':bP} {tl:List (Option aa)} {r0:AV} {K:AV->List (Option aa)->Prop} (h:dN P f args s.os r0 s'.os) (hargs:bS (sig [0,1] (tl.length+2)) args=args) (hwa:aX 2 args=true) (hr:r0.bd (sig [0,1] (tl.length+2))=r0)
  (k:K r0 (s'.os++tl)):ab P f args (s.os++tl) K:=by
 have hn:(s.os++tl).length=tl.length+2:=by simp [bP.os]
 refine ab.fr [0,1] h (by decide) ?_ ?_ hwa ?_ ?_
 ·rw [bP.IM];simp [bP.os]
 ·rw [hn,hargs]
 ·intro i ob hi
  match i,hi with
  | 0,hi=>cases hi;simp only [bP.row,aM,bw,aX,AV.wf,B5];rfl
  | 1,hi=>cases hi;exact bz _ (fun _=>rfl) _
  | i+2,hi=>simp [bP.os] at hi
 ·rw [hn,hr]
  have e:fM (sig [0,1] (tl.length+2)) [0,1] s'.os (s.os++tl)=s'.os++tl:=by
   have h:=s'.IM (tl.length+2);simp only [bP.os,Wa,Wi,List.cons.injEq,Option.some.injEq,and_true] at h;simp only [bP.os,fM,h.1,h.2,VK,VJ,List.set_cons_zero,List.set_cons_succ,Wi,List.append_nil]
  rw [e];exact k
def F4 (x:Ex):Prop:= ∀st:bP,st.fs.length=25->st.labs.length+(aB x).length<=24 ->
 dN Tryz.prog 54 [.ptr 0 0 28 0 0, .agg (aS x)] st.os (.agg [aM (oH x st).2.1,aM (oH x st).2.2]) (oH x st).1.os
theorem gD: ∀(l m:List Ex),aJ (l++m)=aJ l++aJ m
 | [],m=>by simp [aJ]
 | x :: l,m=>by simp only [VK,aJ,gD l m,List.append_assoc]
structure Pa (l:List Ex) (r:JF) (k:Nat) (S:JF):Prop where
 len:S.st.fs.length=25
 ends: ∀p∈aq S.ends,p<25
 labs: ∀h:k<l.length,S.st.labs.length+(aB l[k]).length<=24
theorem NU {l:List Ex} {st:bP} (hf:st.fs.length=25) (hb:st.labs.length+(aJ l).length<=24) (k:Nat):Pa l ⟨st,true,0#32,0#32⟩ k (gq (l.take k) ⟨st,true,0#32,0#32⟩):=by
 have e:aJ l=aJ (l.take k)++aJ (l.drop k):=by rw [<-gD,Wj]
 rw [e,Ug] at hb;have S:=rZ (l.take k) ⟨st,true,0#32,0#32⟩ (fun x _=>oJ x) hf (by rw [kK];intro p hp;cases hp) (by show st.labs.length+(aJ (l.take k)).length<=24;omega)
 refine ⟨S.len,fun p hp=> ?_,fun h=> ?_⟩
 ·rcases (S.vw p).1 (aW.1 hp) with h|h
  ·simp at h
  ·have h2:p<=st.labs.length+(aJ (l.take k)).length:=(fm (wm h)).2;omega
 ·rw [S.labs,Ug];rw [Vd h,aJ,Ug] at hb;simp only;omega
theorem Ee {l:List Ex} {k:Nat} (h:k<l.length) (r:JF):gq (l.take (k+1)) r=cA l[k] (oH l[k] (gq (l.take k) r).st) (gq (l.take k) r):=by
 rw [Wg h,yw];rfl
theorem NV (l:List Ex) (hl:l.length<=24) (hk: ∀x∈l,x.ok∧ay x=true) (H: ∀x∈l,F4 x) (st:bP) (hf:st.fs.length=25) (hb:st.labs.length+(aJ l).length<=24) :
  dN Tryz.prog 84 [.ptr 0 0 28 0 0, .aC 3 (l.map aS) l.length] st.os (.agg [aM (gq l ⟨st,true,0#32,0#32⟩).first,aM (gq l ⟨st,true,0#32,0#32⟩).ends]) (gq l ⟨st,true,0#32,0#32⟩).st.os:=by
 have e0:gq (l.take 0) ⟨st,true,0#32,0#32⟩=⟨st,true,0#32,0#32⟩:=rfl;have eZ:aM 0#32 = .v (.int .u32 0):=rfl;simp only [aM,bP.os,bP.row];refine gF Tryz.func84 Tryz.ntmps84 Tryz.results84 ?_
 (refine au ?_;intro K hK)
 refine cD (ι:=Nat) (fun k=>[(0, .ptr 0 0 28 0 0),(4, .ptr 2 0 2 0 0),(5, .v (.bool (gq (l.take k) ⟨st,true,0#32,0#32⟩).op)),(6,aM (gq (l.take k) ⟨st,true,0#32,0#32⟩).ends),(10, .aC 3 (l.map aS) l.length),(11, .v (.int .i64 l.length)),(12, .v (.int .i64 k))])
  (fun k=>(gq (l.take k) ⟨st,true,0#32,0#32⟩).st.os++[some ⟨101,2,false,[[aM (gq (l.take k) ⟨st,true,0#32,0#32⟩).first, .v (.int .u32 0)]]⟩]) (fun k=>l.length - k) (fun k=>k<=l.length) 0 (by omega) ?_ ?_
 ·simp only [e0,aM,bP.os,bP.row,VK,VJ]
  refine iG ?_ ?_ aj
  ·exact ⟨rfl,rfl⟩
  ·rfl
 ·intro k hkl K hK;have A:=NU hf hb k;generalize hS:gq (l.take k) ⟨st,true,0#32,0#32⟩=S at A ⊢;simp only [aM,bP.os,bP.row,VK,VJ];simp only [gz,List.foldl_cons,List.foldl_nil,List.replicate_succ,List.replicate_zero,go_sem]
  (revert K;revert K;refine au ?_;intro K hK K hK K hK)
  refine bC.part (fun h=> ?_) (fun h=> ?_)
  ·have hlt:k<l.length:=by replace h:=bJ h;omega
   have eG:=getD_map aS l k [] hlt;have eW:=ak (k:=k) (by omega);have C1:=H l[k] (Vx hlt) S.st A.len (A.labs hlt);have B:=oJ l[k] S.st A.len (A.labs hlt);have hx:=hk l[k] (Vx hlt);have C3:=Cc l[k] hx.1;rw [dj,hx.2,Vq] at C3
   have hNext:gq (l.take (k+1)) ⟨st,true,0#32,0#32⟩=cA l[k] (oH l[k] S.st) S:=by rw [Ee hlt,hS]
   generalize l[k]=x at *;generalize oH x S.st=b at *;have C2:=H4 b.1 S.ends b.2.1 B.len A.ends;simp only [aD] at eG C1 C3;simp only [aM] at C1 C2
   have wE:aX 2 [.ptr 0 0 28 0 0, .agg [.v (.int .i64 x.kind), .v (.string x.label), .aC 3 (x.kids.map aS) x.kids.length]]=true:=by simp only [aX,AV.wf,bf,Wc,Vq];rfl
   have rE: ∀f:Nat->Nat,f 0=0->bS f [.ptr 0 0 28 0 0, .agg [.v (.int .i64 x.kind), .v (.string x.label), .aC 3 (x.kids.map aS) x.kids.length]]=[.ptr 0 0 28 0 0, .agg [.v (.int .i64 x.kind), .v (.string x.label), .aC 3 (x.kids.map aS) x.kids.length]]:=fun f hf=>by
    simp only [bS,AV.bd,hf,e8 f _ (bf 0 x.kids)]
   repeat (first|(with_reducible first|refine aA.up ?_|refine fun (K:AK) hK=> ?_|(refine hK _ ?_;clear hK K))|simp only [go_sem,eG]|with_reducible refine wA ?_|clear hK K)
   refine ab.Oz C1 (rE _ rfl) wE rfl ?_;simp only [bP.os,bP.row,aM,VK,VJ];obtain ⟨sS,op,en,fi⟩:=S;simp only at *
   ((iterate 5 revert K);refine au ?_;iterate 5 intro K hK)
   refine ab.Oz C2 rfl rfl rfl ?_;simp only [bP.os,bP.row,aM,VK,VJ];cases op<;>cases hem:aG x
   all_goals
    rw [hem] at C3
    repeat (first|(with_reducible first|refine aA.up ?_|refine fun (K:AK) hK=> ?_|(refine hK _ ?_;clear hK K))|simp only [go_sem,kT]|with_reducible refine wA ?_|clear hK K)
    refine ab.one C3 ?_
    repeat (first|(with_reducible first|refine aA.up ?_|refine fun (K:AK) hK=> ?_|(refine hK _ ?_;clear hK K))|simp only [go_sem,kT]|with_reducible refine wA ?_|clear hK K)
    refine az.mk (k+1) (by omega) (by omega) ?_;rw [hNext];simp only [cA,hem,bP.os,bP.row,aM,VK,VJ,if_true,if_false,Bool.false_eq_true];refine bp ?_ aj
    all_goals first|exact eW|exact ⟨kT 0#32 _,eW⟩|exact ⟨kT _ _,eW⟩
  ·have hkl':k=l.length:=by replace h:=bJ h;omega
   have eT:gq l ⟨st,true,0#32,0#32⟩=S:=by rw [<-hS,hkl',List.take_length]
   ((iterate 3 revert K);refine au ?_)
   (refine ⟨?_, ?_, ?_⟩<;>simp only [dt,kE,AV.v.injEq,Value.int.injEq,Value.bool.injEq,Value.string.injEq,AV.vec.injEq,AV.ptr.injEq,true_or,or_true,false_or,or_false,aa.mk.injEq,forall_eq_apply_imp_iff,forall_eq,forall_eq',go_sem])
   ·rw [eT]
   ·rw [eT];exact ⟨rfl,rfl⟩
theorem Ed {l:List Ex} {k:Nat} (h:k<l.length) (r:bP×BitVec 32×BitVec 32):fp (l.take (k+1)) r=((oH l[k] (fp (l.take k) r).1).1,(fp (l.take k) r).2.1 ||| (oH l[k] (fp (l.take k) r).1).2.1,(fp (l.take k) r).2.2 ||| (oH l[k] (fp (l.take k) r).1).2.2):=by
 rw [Wg h,yv];rfl
structure OV (l:List Ex) (k:Nat) (S:bP×BitVec 32×BitVec 32):Prop where
 len:S.1.fs.length=25
 vw: ∀p∈aq S.2.2,p<25
 labs: ∀h:k<l.length,S.1.labs.length+(aB l[k]).length<=24
theorem MW {l:List Ex} {st:bP} (hf:st.fs.length=25) (hb:st.labs.length+(aJ l).length<=24) (k:Nat):OV l k (fp (l.take k) (st,0#32,0#32)):=by
 have e:aJ l=aJ (l.take k)++aJ (l.drop k):=by rw [<-gD,Wj]
 rw [e,Ug] at hb;have S:=rY (l.take k) (st,0#32,0#32) (fun x _=>oJ x) hf (by show st.labs.length+(aJ (l.take k)).length<=24;omega)
 refine ⟨S.len,fun p hp=> ?_,fun h=> ?_⟩
 ·rcases (S.vw p).1 (aW.1 hp) with h|h
  ·simp at h
  ·have h2:p<=st.labs.length+(aJ (l.take k)).length:=(fm h).2;omega
 ·rw [S.labs,Ug];rw [Vd h,aJ,Ug] at hb;simp only;omega
theorem ld {k:Int} {s:ByteArray} {l:List Ex} (h:ay (.mk k s l)=true): ∀x∈l,ay x=true:=fun x hx=>by
 simp only [ay,Bool.and_eq_true,decide_eq_true_eq,List.all_eq_true] at h ⊢
 have hs: ∀y,y∈ai x->y∈ai (.mk k s l):=fun y hy=>by
  rw [ai,bn];exact List.mem_cons_of_mem _ (List.mem_flatMap.2 ⟨x,hx,hy⟩)
 refine ⟨?_,fun y hy=>h.2 y (hs y hy)⟩
 have:=gG (.mk k s l) x (hs x (by obtain ⟨k',s',l'⟩:=x;rw [ai];exact List.mem_cons_self))
 omega
theorem C9: ∀ {l:List Ex},nq l-> ∀x∈l,x.ok
 | [],_,x,hx=>by cases hx
 | y :: l,h,x,hx=>by
  rw [nq] at h
  rcases List.mem_cons.1 hx with rfl|hx
  ·exact h.1
  ·exact C9 h.2 x hx
theorem NM (x:Ex) (ho:x.ok) (hr:ay x=true):F4 x:=by
 induction x using Ex.ind with
 | h k s l ih=>
  intro st hf hb;have hkid: ∀x∈l,x.ok∧ay x=true:=fun x hx=>⟨C9 (by rw [Ex.ok] at ho;exact ho.2) x hx,ld hr x hx⟩;have H: ∀x∈l,F4 x:=fun x hx=>ih x hx (hkid x hx).1 (hkid x hx).2
  have hl:l.length<=24:=by
   simp only [ay,Bool.and_eq_true,decide_eq_true_eq] at hr
   have:=kQ (.mk k s l);simp only [Ex.kids] at this;omega
  by_cases h1:k=1
  ·subst h1;rw [aB,if_pos rfl] at hb;simp only [List.length_singleton] at hb;have C:=NH ((st.labs.length+1:Nat):Int)
   have eL:(st.labs++[s]).map encS=st.labs.map encS++[[.v (.string s)]]:=by simp [encS]
   have eN:(st.labs++[s]).length=st.labs.length+1:=by simp
   rw [oH,if_pos rfl];simp only [aD,Ex.kind,Ex.label,Ex.kids,aM,bP.os,bP.row,eL,eN] at C ⊢;refine gF Tryz.func54 Tryz.ntmps54 Tryz.results54 ?_
   repeat ((fail_if_success (with_reducible refine bB (i:=3) ?_));first|(with_reducible first|refine aA.up ?_|refine fun (K:AK) hK=> ?_|refine ae (by decide) ?_|refine ah (by decide) ?_|(refine hK _ ?_;clear hK K))|simp only [go_sem,Go.undef]|with_reducible refine wA ?_|(refine cG rfl ?_)|(refine cd rfl ?_)|clear hK K)
   refine bV [8,11] [] (by decide+kernel) (by kernel_rfl) ?_
   repeat (first|(with_reducible first|refine aA.up ?_|refine fun (K:AK) hK=> ?_|refine ae (by decide) ?_|refine ah (by decide) ?_|(refine hK _ ?_;clear hK K))|simp only [go_sem]|with_reducible refine wA ?_|(refine cG rfl ?_)|(refine cd rfl ?_)|clear hK K)
   refine ab.one C ?_
   ((iterate 3 revert K);refine sD ?_)
   (refine ⟨?_, ?_, ?_⟩<;>simp only [dt,kE,AV.v.injEq,Value.int.injEq,Value.bool.injEq,Value.string.injEq,AV.vec.injEq,AV.ptr.injEq,true_or,or_true,false_or,or_false,aa.mk.injEq,forall_eq_apply_imp_iff,forall_eq,forall_eq',go_sem])
  ·have f1:(k==1)=false:=beq_false_of_ne h1;rw [cK h1] at hb;rw [oH,if_neg h1]
   have wE:aX 2 [.ptr 0 0 28 0 0, .aC 3 (l.map aS) l.length]=true:=by simp only [aX,AV.wf,bf,Wc,Vq];rfl
   have rE: ∀f:Nat->Nat,f 0=0->bS f [.ptr 0 0 28 0 0, .aC 3 (l.map aS) l.length]=[.ptr 0 0 28 0 0, .aC 3 (l.map aS) l.length]:=fun f hf=>by
    simp only [bS,AV.bd,hf,e8 f _ (bf 0 l)]
   by_cases h2:k=2
   ·subst h2;have C:=NV l hl hkid H st hf hb;rw [if_pos rfl];generalize gq l ⟨st,true,0#32,0#32⟩=R at *;simp only [aD,Ex.kind,Ex.label,Ex.kids,aM] at C ⊢;refine gF Tryz.func54 Tryz.ntmps54 Tryz.results54 ?_
    repeat ((fail_if_success (with_reducible refine bB (i:=3) ?_));first|(with_reducible first|refine aA.up ?_|refine fun (K:AK) hK=> ?_|refine ae (by decide) ?_|refine ah (by decide) ?_|(refine hK _ ?_;clear hK K))|simp only [go_sem,f1,bP.os,bP.row,aM]|with_reducible refine wA ?_|(refine cG rfl ?_)|(refine cd rfl ?_)|clear hK K)
    refine ab.Oz C (rE _ rfl) wE rfl ?_;simp only [bP.os,bP.row,aM,VK,VJ]
    ((iterate 3 revert K);refine sD ?_)
    (refine ⟨?_, ?_, ?_⟩<;>simp only [dt,kE,AV.v.injEq,Value.int.injEq,Value.bool.injEq,Value.string.injEq,AV.vec.injEq,AV.ptr.injEq,true_or,or_true,false_or,or_false,aa.mk.injEq,forall_eq_apply_imp_iff,forall_eq,forall_eq',go_sem])
   ·have f2:(k==2)=false:=beq_false_of_ne h2;rw [if_neg h2];have e0:fp (l.take 0) (st,0#32,0#32)=(st,0#32,0#32):=rfl;simp only [aD,Ex.kind,Ex.label,Ex.kids,aM];refine gF Tryz.func54 Tryz.ntmps54 Tryz.results54 ?_
    repeat ((fail_if_success (with_reducible refine bB (i:=3) ?_));first|(with_reducible first|refine aA.up ?_|refine fun (K:AK) hK=> ?_|refine ae (by decide) ?_|refine ah (by decide) ?_|(refine hK _ ?_;clear hK K))|simp only [go_sem,f1,f2,bP.os,bP.row,aM]|with_reducible refine wA ?_|(refine cG rfl ?_)|(refine cd rfl ?_)|clear hK K)
    refine cD (ι:=Nat) (fun j=>[(0, .ptr 0 0 28 0 0),(3, .ptr 2 0 3 0 0),(4, .ptr 3 0 2 0 0),(40, .aC 3 (l.map aS) l.length),(41, .v (.int .i64 l.length)),(42, .v (.int .i64 j))])
     (fun j=>(fp (l.take j) (st,0#32,0#32)).1.os++[some ⟨25,3,false,[[.v (.int .i64 k), .v (.string s), .aC 3 (l.map aS) l.length]]⟩,some ⟨101,2,false,[[aM (fp (l.take j) (st,0#32,0#32)).2.1,aM (fp (l.take j) (st,0#32,0#32)).2.2]]⟩]) (fun j=>l.length - j) (fun j=>j<=l.length) 0 (by omega) ?_ ?_
    ·simp only [e0,aM,bP.os,bP.row,VK,VJ];refine iG ?_ ?_ aj
     all_goals first|rfl|exact ⟨rfl,rfl⟩
    ·intro j hjl K hK;have A:=MW hf hb j;generalize hS:fp (l.take j) (st,0#32,0#32)=S at A ⊢;simp only [aM,bP.os,bP.row,VK,VJ];simp only [gz,List.foldl_cons,List.foldl_nil,List.replicate_succ,List.replicate_zero,go_sem]
     (revert K;revert K;refine sD ?_;intro K hK K hK K hK)
     refine bC.part (fun h=> ?_) (fun h=> ?_)
     ·have hlt:j<l.length:=by replace h:=ot h;omega
      have eG:=getD_map aS l j [] hlt;have eW:=ak (k:=j) (by omega);have C1:=H l[j] (Vx hlt) S.1 A.len (A.labs hlt);have hNext:=Ed hlt (st,0#32,0#32);rw [hS] at hNext;generalize l[j]=x at *;generalize oH x S.1=b at *;simp only [aD] at eG C1;simp only [aM] at C1
      have wX:aX 2 [.ptr 0 0 28 0 0, .agg [.v (.int .i64 x.kind), .v (.string x.label), .aC 3 (x.kids.map aS) x.kids.length]]=true:=by simp only [aX,AV.wf,bf,Wc,Vq];rfl
      have rX: ∀f:Nat->Nat,f 0=0->bS f [.ptr 0 0 28 0 0, .agg [.v (.int .i64 x.kind), .v (.string x.label), .aC 3 (x.kids.map aS) x.kids.length]]=[.ptr 0 0 28 0 0, .agg [.v (.int .i64 x.kind), .v (.string x.label), .aC 3 (x.kids.map aS) x.kids.length]]:=fun f hf=>by
       simp only [bS,AV.bd,hf,e8 f _ (bf 0 x.kids)]
      obtain ⟨sS,fi,la⟩:=S;simp only at *
      repeat (first|(with_reducible first|refine aA.up ?_|refine fun (K:AK) hK=> ?_|refine ae (by decide) ?_|refine ah (by decide) ?_|(refine hK _ ?_;clear hK K))|simp only [go_sem,eG]|with_reducible refine wA ?_|(refine cG rfl ?_)|(refine cd rfl ?_)|clear hK K)
      refine ab.Oz C1 (rX _ rfl) wX rfl ?_;simp only [bP.os,bP.row,aM,VK,VJ]
      repeat ((fail_if_success (with_reducible refine bB (i:=12) ?_));first|(with_reducible first|refine aA.up ?_|refine fun (K:AK) hK=> ?_|refine ae (by decide) ?_|refine ah (by decide) ?_|(refine hK _ ?_;clear hK K))|simp only [go_sem,kT]|with_reducible refine wA ?_|(refine cG rfl ?_)|(refine cd rfl ?_)|clear hK K)
      refine bV [11,13] [(8,1000)] (by decide+kernel) (by kernel_rfl) ?_
      repeat (first|(with_reducible first|refine aA.up ?_|refine fun (K:AK) hK=> ?_|refine ae (by decide) ?_|refine ah (by decide) ?_|(refine hK _ ?_;clear hK K))|simp only [go_sem,kT]|with_reducible refine wA ?_|(refine cG rfl ?_)|(refine cd rfl ?_)|clear hK K)
      refine az.mk (j+1) (by omega) (by omega) ?_;rw [hNext];simp only [bP.os,bP.row,aM,VK,VJ];refine bp ?_ aj
      all_goals first|exact eW|skip
     ·have hjl':j=l.length:=by replace h:=ot h;omega
      have eT:fp l (st,0#32,0#32)=S:=by rw [<-hS,hjl',List.take_length]
      have C:=H4 S.1 S.2.2 S.2.1 A.len A.vw;obtain ⟨sS,fi,la⟩:=S;simp only at *;simp only [aM] at C
      by_cases h4:k=4
      ·subst h4
       ((iterate 3 revert K);refine G9 ?_;intro K hK K hK)
       refine ab.Oz C rfl rfl rfl ?_;simp only [bP.os,bP.row,aM,VK,VJ]
       (revert K;revert K;refine sD ?_)
       rw [eT];simp only [true_or,if_true,bP.os,bP.row,aM]
       (refine ⟨?_, ?_, ?_⟩<;>simp only [dt,kE,AV.v.injEq,Value.int.injEq,Value.bool.injEq,Value.string.injEq,AV.vec.injEq,AV.ptr.injEq,true_or,or_true,false_or,or_false,aa.mk.injEq,forall_eq_apply_imp_iff,forall_eq,forall_eq',go_sem])
      ·by_cases h5:k=5
       ·subst h5
        ((iterate 3 revert K);refine G9 ?_;intro K hK K hK)
        refine ab.Oz C rfl rfl rfl ?_;simp only [bP.os,bP.row,aM,VK,VJ]
        (revert K;revert K;refine sD ?_)
        rw [eT];simp only [or_true,if_true,bP.os,bP.row,aM]
        (refine ⟨?_, ?_, ?_⟩<;>simp only [dt,kE,AV.v.injEq,Value.int.injEq,Value.bool.injEq,Value.string.injEq,AV.vec.injEq,AV.ptr.injEq,true_or,or_true,false_or,or_false,aa.mk.injEq,forall_eq_apply_imp_iff,forall_eq,forall_eq',go_sem])
       ·have f4:(k==4)=false:=beq_false_of_ne h4;have f5:(k==5)=false:=beq_false_of_ne h5
        ((iterate 3 revert K);refine Nk f4 f5 ?_)
        rw [eT];simp only [h4,h5,or_self,if_false,bP.os,bP.row,aM]
        (refine ⟨?_, ?_, ?_⟩<;>simp only [dt,kE,AV.v.injEq,Value.int.injEq,Value.bool.injEq,Value.string.injEq,AV.vec.injEq,AV.ptr.injEq,true_or,or_true,false_or,or_false,aa.mk.injEq,forall_eq_apply_imp_iff,forall_eq,forall_eq',go_sem])
def il (s:bP):List AV:= .aC 1 (s.labs.map encS) s.labs.length :: (s.fs.map aM++[aM s.la, .v (.bool s.em)])
theorem x0 (n:Nat) (s:bP):aX n (il s)=true:=by simp only [il,aM,aX,AV.wf,B5,bm,Bool.and_self]
attribute [go_sem] x0
theorem Nz (s:bP):ar Tryz.prog 92 [.vp (il s)] (.v (.int .i64 s.labs.length)):=by
 simp only [il,aM];refine gE Tryz.func92 Tryz.ntmps92 Tryz.results92 ?_
 repeat' (first|(with_reducible first|refine aA.up ?_|refine fun (K:AK) hK=> ?_|(refine hK _ ?_;clear hK K))|simp only [go_sem]|clear hK K|(with_reducible refine ab.one (by assumption) ?_)|(with_reducible refine ba.one (by assumption) ?_)|(refine bC.part (fun hb=> ?_) (fun hb=> ?_)<;>simp only [hb,go_sem])|(refine bC.part (fun hb=> ?_) (fun hb=> ?_))|(with_reducible refine ni.mk ?_ ?_))
theorem Ld (s:bP) (hf:s.fs.length=25):ar Tryz.prog 57 [.vp (il s)] (.aC 1 (aI (aq s.la)) (aq s.la).length):=by
 have C:=H5 s.la
 have eD:List.drop 25 (s.fs.map aM++[.v (.int .u32 s.la.toNat), .v (.bool s.em)])=[.v (.int .u32 s.la.toNat), .v (.bool s.em)]:=by rw [List.drop_append_of_le_length (by simp [hf]),List.drop_eq_nil_of_le (by simp [hf])];rfl
 simp only [il,aM] at *;refine gE Tryz.func57 Tryz.ntmps57 Tryz.results57 ?_
 (refine G8 eD ?_;intro K hK K hK)
 refine ab.one C ?_
 (revert K;revert K;refine bF ?_)
 (refine jB.of 40 rfl ?_;simp only [go_sem])
theorem Ig (s:bP) (hf:s.fs.length=25):ar Tryz.prog 62 [.vp (il s)] (.v (.bool s.em)):=by
 have eD:List.drop 26 (s.fs.map aM++[.v (.int .u32 s.la.toNat), .v (.bool s.em)])=[.v (.bool s.em)]:=by
  rw [show 26=s.fs.length+1 by omega,show (s.fs.length+1)=(s.fs.map aM).length+1 by simp,List.drop_append];simp
 simp only [il,aM] at *;refine gE Tryz.func62 Tryz.ntmps62 Tryz.results62 ?_;exact Ns eD
def ec (s:bP) (p:Int):ByteArray:=if 1<=p∧p<=s.labs.length then s.labs.getD (p - 1).toNat ⟨#[]⟩ else ⟨#[]⟩
def SL (s:bP) (p:Int):List Nat:=if 1<=p∧p<=s.labs.length then aq (s.fs.getD p.toNat 0#32) else []
theorem EL {s:bP} {p:Int} (h1:1<=p) (h2:p<=s.labs.length):(s.labs.map encS).getD (p - 1).toNat []=[.v (.string (ec s p))]:=by
 have hlt:(p - 1).toNat<s.labs.length:=by omega
 rw [ec,if_pos ⟨h1,h2⟩];rw [U3,U3,List.getElem?_map,List.getElem?_eq_getElem hlt];rfl
theorem G3 {fs:List (BitVec 32)} {X:List AV} {p:Nat} (h:p<fs.length): ∃r,(fs.map aM++X).drop (p * 1)=aM (fs.getD p 0#32) :: r:=by
 obtain ⟨r,e⟩:=CH (l:= .undef) (X:=X) h;rw [Nat.add_comm,List.drop_succ_cons] at e;exact ⟨r,e⟩
def nZ (s:bP) (l:List Nat):BitVec 32:=l.foldl (fun t p=>t ||| s.fs.getD p 0#32) 0#32
def sU (s:bP) (lab:ByteArray) (t:BitVec 32) (p:Nat):BitVec 32:=if (ec s p).toList==lab.toList then t else t &&& ~~~ ofM p
def lx (s:bP) (lab:ByteArray) (l:List Nat) (t:BitVec 32):BitVec 32:=l.foldl (sU s lab) t
def iu (s:bP) (gz:BitVec 32) (lab:ByteArray):BitVec 32:=lx s lab (aq (nZ s (aq gz))) (nZ s (aq gz))
theorem E6 (s:bP) (l:List Nat) (p:Nat):nZ s (l++[p])=nZ s l ||| s.fs.getD p 0#32:=by rw [nZ,V5];rfl
theorem Bv (s:bP) (lab:ByteArray) (l:List Nat) (t:BitVec 32) (p:Nat):lx s lab (l++[p]) t=sU s lab (lx s lab l t) p:=by rw [lx,V5];rfl
theorem N5 (s:bP) (fr:BitVec 32) (lab:ByteArray) (hf:s.fs.length=25) (hn:s.labs.length<=24) (h1: ∀p∈aq fr,p<25) (h2: ∀p∈aq (nZ s (aq fr)),1<=p∧p<=s.labs.length) :
  ar Tryz.prog 93 [.vp (il s),aM fr, .v (.string lab)] (aM (iu s fr lab)):=by
 have A1:=pw fr;have A2:=pw (nZ s (aq fr));have O:=fun p=>NH p;have hV:=x0;obtain ⟨V,hVe⟩: ∃V,V=il s:=⟨_,rfl⟩;simp only [nH,aM] at *;refine gE Tryz.func93 Tryz.ntmps93 Tryz.results93 ?_
 (refine sE ?_;intro K hK K hK K hK)
 refine ab.fr [] A1 (by simp) ?_ ?_ ?_ ?_ ?_
 ·rfl
 ·rfl
 ·rfl
 ·intro k ob hk;simp at hk
 ((iterate 3 revert K);refine sE ?_;intro K hK)
 refine iL fr 3 (by simp only [nH,aM];rfl) 7 (fun k=>[some ⟨61,1,false,[[.vp (il s)]]⟩,some ⟨9,1,false,[[.v (.string lab)]]⟩,some ⟨96,1,false,[[aM (nZ s ((aq fr).take k))]]⟩,none]) (fun _=>True) trivial ?_ rfl ?_ (by kernel_rfl) (by kernel_rfl) rfl ?_ ?_
 ·rfl
 ·simp only [aM];refine qI ?_ aj
  all_goals rfl
 ·intro k hk _;have hp:=h1 _ (List.getElem_mem hk);rw [Wg hk,E6];generalize nZ s ((aq fr).take k)=T at *;generalize (aq fr)[k]=p at *;obtain ⟨r,eD⟩:=G3 (X:=[.v (.int .u32 s.la.toNat), .v (.bool s.em)]) (fs:=s.fs) (p:=p) (by omega);simp only [aM,il] at eD ⊢
  repeat (first|(with_reducible first|refine aA.up ?_|refine fun (K:AK) hK=> ?_|refine wE ?_|refine wD ?_|refine wK ?_|refine wF ?_|refine ae (by decide) ?_|refine ah (by decide) ?_|(refine hK _ ?_;clear hK K))|simp only [go_sem,eD,kT]|with_reducible refine wA ?_|clear hK K)
  exact aO aj
 ·intro _;have e1:(aq fr).take (aq fr).length=aq fr:=List.take_length;simp only [e1,aM,il]
  (revert K;refine sE ?_;intro K hK K hK K hK)
  refine ab.fr [] A2 (by simp) ?_ ?_ ?_ ?_ ?_
  ·rfl
  ·rfl
  ·rfl
  ·intro k ob hk;simp at hk
  ((iterate 3 revert K);refine sE ?_;intro K hK)
  have hS:iu s fr lab=lx s lab (aq (nZ s (aq fr))) (nZ s (aq fr)):=rfl;generalize nZ s (aq fr)=T at *
  refine iL T 4 (by simp only [nH,aM];rfl) 7 (fun k=>[some ⟨61,1,false,[[.vp (il s)]]⟩,some ⟨9,1,false,[[.v (.string lab)]]⟩,some ⟨96,1,false,[[aM (lx s lab ((aq T).take k) T)]]⟩,none,none]) (fun _=>True) trivial ?_ rfl ?_ (by kernel_rfl) (by kernel_rfl) rfl ?_ ?_
  ·rfl
  ·simp only [aM,il];refine qI ?_ aj
   all_goals rfl
  ·intro k hk _;have hp:=h2 _ (List.getElem_mem hk);rw [Wg hk,Bv,sU];generalize lx s lab ((aq T).take k) T=U at *;generalize (aq T)[k]=p at *;have eG:=EL (s:=s) (p:=p) (by omega) (by omega);have eW:IntKind.i64.wrap ((p:Int) - 1)=(p:Int) - 1:=dr (by omega) (by omega);have C:=O p;simp only [aM,il]
   cases hq:(ec s p).toList==lab.toList
   ·simp only [Vu,if_false]
    repeat ((fail_if_success (with_reducible refine bB (i:=7) ?_));first|(with_reducible first|refine aA.up ?_|refine fun (K:AK) hK=> ?_|refine wK ?_|refine wF ?_|refine ae (by decide) ?_|refine ah (by decide) ?_|(refine hK _ ?_;clear hK K))|simp only [go_sem,eG,eW,hq]|with_reducible refine wA ?_|clear hK K)
    refine wD ?_
    repeat (first|(with_reducible first|refine aA.up ?_|refine fun (K:AK) hK=> ?_|refine wK ?_|refine wF ?_|refine ae (by decide) ?_|refine ah (by decide) ?_|(refine hK _ ?_;clear hK K))|simp only [go_sem,eG,eW,hq]|with_reducible refine wA ?_|clear hK K)
    refine bV [4] [] (by decide+kernel) (by kernel_rfl) ?_
    (revert K;refine Np eG eW hq ?_;intro K hK K hK)
    refine ba.one C ?_
    repeat (first|(with_reducible first|refine aA.up ?_|refine fun (K:AK) hK=> ?_|refine wK ?_|refine wF ?_|refine ae (by decide) ?_|refine ah (by decide) ?_|(refine hK _ ?_;clear hK K))|simp only [go_sem,K8]|with_reducible refine wA ?_|clear hK K)
    exact aO aj
    all_goals rfl
   ·simp only [if_true]
    repeat (first|(with_reducible first|refine aA.up ?_|refine fun (K:AK) hK=> ?_|refine wE ?_|refine wD ?_|refine wK ?_|refine wF ?_|refine ae (by decide) ?_|refine ah (by decide) ?_|(refine hK _ ?_;clear hK K))|simp only [go_sem,eG,eW,hq]|with_reducible refine wA ?_|clear hK K)
    exact aO aj
    all_goals rfl
  ·intro _;have e2:(aq T).take (aq T).length=aq T:=List.take_length;simp only [e2,aM,il]
   (revert K;refine sE ?_)
   rw [hS]
structure yb (s:bP):Prop where
 len:s.fs.length=25
 n:s.labs.length<=24
 qD: ∀p q,(s.fs.getD p 0#32).getLsbD q=true->1<=q∧q<=s.labs.length
 la: ∀q,s.la.getLsbD q=true->1<=q∧q<=s.labs.length
theorem sw {f:Nat->BitVec 32} {q:Nat}: ∀(l:List Nat) (t:BitVec 32),(l.foldl (fun t p=>t ||| f p) t).getLsbD q=true↔t.getLsbD q=true∨ ∃p∈l,(f p).getLsbD q=true
 | [],t=>by simp
 | x :: l,t=>by
  rw [VN,sw l,BitVec.getLsbD_or,Bool.or_eq_true];simp only [Vt,exists_eq_or_imp,or_assoc]
theorem o7 {s:bP} {l:List Nat} {q:Nat}:(nZ s l).getLsbD q=true ↔ ∃p∈l,(s.fs.getD p 0#32).getLsbD q=true:=by
 rw [nZ,sw];simp
theorem p9 {s:bP} {lab:ByteArray} {q:Nat} (hq:q<=24): ∀(l:List Nat) (t:BitVec 32),(lx s lab l t).getLsbD q=true↔t.getLsbD q=true∧(q∈l->((ec s q).toList==lab.toList)=true)
 | [],t=>by simp [lx]
 | x :: l,t=>by
  rw [lx,VN, <- lx,p9 hq l,sU]
  split
  ·rename_i h;simp only [Vt]
   constructor
   ·rintro ⟨h1,h2⟩;exact ⟨h1,fun hh=>hh.elim (fun e=>by rw [e];exact h) h2⟩
   ·rintro ⟨h1,h2⟩;exact ⟨h1,fun hh=>h2 (.inr hh)⟩
  ·rename_i h;rw [VY,BitVec.getLsbD_not,o6];simp only [Vt]
   constructor
   ·rintro ⟨h1,h2⟩;simp only [UW,Bool.not_eq_true',decide_eq_false_iff_not,decide_eq_true_eq] at h1;have hne:q≠x:=fun e=>h1.2.2 ⟨by omega,by omega,by omega⟩;exact ⟨h1.1,fun hh=>hh.elim (fun e=>absurd e hne) h2⟩
   ·rintro ⟨h1,h2⟩;have hne:q≠x:=fun e=>h (by rw [<-e];exact h2 (.inl e));refine ⟨?_,fun hh=>h2 (.inr hh)⟩;simp only [UW,Bool.not_eq_true',decide_eq_false_iff_not,decide_eq_true_eq];exact ⟨h1,by omega,fun hh=>hne (by omega)⟩
theorem ku {s:bP} (ok:yb s) {m:BitVec 32} {lab:ByteArray} {q:Nat}:(iu s m lab).getLsbD q=true ↔ ∃p,m.getLsbD p=true∧(s.fs.getD p 0#32).getLsbD q=true∧(ec s q).toList=lab.toList:=by
 have hb: ∀q,(nZ s (aq m)).getLsbD q=true->1<=q∧q<=s.labs.length:=fun q h=>by
  obtain ⟨p,_,h⟩:=o7.1 h;exact ok.qD p q h
 have sub: ∀(l:List Nat) (t:BitVec 32),(lx s lab l t).getLsbD q=true->t.getLsbD q=true:=fun l=>by
  induction l with
  | nil=>intro t h;exact h
  | cons x l ih=>
   intro t h
   have:=ih _ h
   rw [sU] at this
   split at this
   ·exact this
   ·rw [VY,UW] at this;exact this.1
 constructor
 ·intro h;have h1:=sub _ _ h;have h2:=hb q h1;have h3:=ok.n
  have:=((p9 (by omega) _ _).1 h).2 (aW.2 h1)
  obtain ⟨p,h4,h5⟩:=o7.1 h1;exact ⟨p,aW.1 h4,h5,by simpa using this⟩
 ·rintro ⟨p,h1,h2,h3⟩;have h4:=ok.qD p q h2;have h5:=ok.n;exact (p9 (by omega) _ _).2 ⟨o7.2 ⟨p,aW.2 h1,h2⟩,fun _=>by simpa using h3⟩
theorem LM {s:bP} (ok:yb s) (m:BitVec 32) (lab:ByteArray) (h1: ∀p∈aq m,p<25):ar Tryz.prog 93 [.vp (il s),aM m, .v (.string lab)] (aM (iu s m lab)):=
 N5 s m lab ok.len ok.n h1 (fun p hp=>by
  obtain ⟨q,_,h⟩:=o7.1 (aW.1 hp)
  exact ok.qD _ _ h)
def sy (s:bP) (t:BitVec 32) (p:Int):BitVec 32:=if p<=s.labs.length then t ||| ofM p else t
def fG (s:bP) (l:List Int):BitVec 32:=l.foldl (sy s) 0#32
theorem Bg (s:bP) (l:List Int) (p:Int):fG s (l++[p])=sy s (fG s l) p:=by rw [fG,V5];rfl
theorem j9 {s:bP} (ok:yb s) {q:Nat}: ∀(l:List Int) (t:BitVec 32),(l.foldl (sy s) t).getLsbD q=true↔t.getLsbD q=true∨((q:Int)∈l∧q<=s.labs.length)
 | [],t=>by simp
 | x :: l,t=>by
  have hn:=ok.n;rw [VN,j9 ok l,sy,Vt]
  split
  ·rename_i h;rw [BitVec.getLsbD_or,Bool.or_eq_true,o6,decide_eq_true_eq]
   constructor
   ·rintro ((h|h)|h)
    ·exact .inl h
    ·exact .inr ⟨.inl h.2.2,by omega⟩
    ·exact .inr ⟨.inr h.1,h.2⟩
   ·rintro (h|⟨h|h,h2⟩)
    ·exact .inl (.inl h)
    ·exact .inl (.inr ⟨by omega,by omega,h⟩)
    ·exact .inr ⟨h,h2⟩
  ·rename_i h
   constructor
   ·rintro (h|h)
    ·exact .inl h
    ·exact .inr ⟨.inr h.1,h.2⟩
   ·rintro (h|⟨h|h,h2⟩)
    ·exact .inl h
    ·exfalso;omega
    ·exact .inr ⟨h,h2⟩
theorem G0 {s:bP} (ok:yb s) (l:List Int): ∀p∈aq (fG s l),p<25:=fun p hp=>by
 have:=(j9 ok l 0#32).1 (aW.1 hp)
 have:=ok.n
 simp at *; omega
theorem Lf {s:bP} (ok:yb s) (l:List Int) (lab:ByteArray) (hl:l.length<=1000000):ar Tryz.prog 59 [.vp (il s), .aC 1 (l.map encI) l.length, .v (.string lab)]
  (.aC 1 (aI (aq (iu s (fG s l) lab))) (aq (iu s (fG s l) lab)).length):=by
 have L:=Nz s;have S:=LM ok (fG s l) lab (G0 ok l);have B:=H5 (iu s (fG s l) lab);have O:=fun p=>NH p;have eZ:aM 0#32 = .v (.int .u32 0):=rfl;generalize hR:iu s (fG s l) lab=R at *;simp only [aM] at *;refine gE Tryz.func59 Tryz.ntmps59 Tryz.results59 ?_
 (refine au ?_;intro K hK)
 refine cD (ι:=Nat) (fun k=>[(0, .vp (il s)),(1, .aC 1 (l.map encI) l.length),(2, .v (.string lab)),(6, .v (.slice none 0 0)),(7,aM (fG s (l.take k))),(12, .aC 1 (l.map encI) l.length),(13, .v (.int .i64 l.length)),(14, .v (.int .i64 k))]) (fun k=>[]) (fun k=>l.length - k) (fun k=>k<=l.length) 0 (by omega) ?_ ?_
 ·simp only [aM];refine bp ?_ aj;exact ⟨rfl,rfl⟩
 ·intro k hkl K hK;simp only [aM];simp only [gz,VN,List.foldl_nil,List.replicate_succ,List.replicate_zero,go_sem]
  (revert K;revert K;refine au ?_;intro K hK K hK K hK)
  refine bC.part (fun h=> ?_) (fun h=> ?_)
  ·have hlt:k<l.length:=by replace h:=bJ h;omega
   have eG:=getD_map encI l k [] hlt;have eW:=ak (k:=k) (by omega);have hN:=Bg s (l.take k) l[k];rw [<-Wg hlt,sy] at hN;have Ok:=O l[k];simp only [encI] at eG
   repeat (first|(with_reducible first|refine aA.up ?_|refine fun (K:AK) hK=> ?_|(refine hK _ ?_;clear hK K))|simp only [go_sem,eG]|with_reducible refine wA ?_|clear hK K)
   refine ab.one L ?_
   ((iterate 5 revert K);refine au ?_;intro K hK K hK K hK)
   refine bC.part (fun h=> ?_) (fun h=> ?_)
   ·rw [if_pos (by replace h:=bJ h;omega)] at hN
    ((iterate 3 revert K);refine au ?_;iterate 4 intro K hK)
    refine ab.one Ok ?_
    ((iterate 4 revert K);refine Nj ?_)
    refine az.mk (k+1) (by omega) (by omega) ?_;rw [hN];simp only [aM];refine bp ?_ aj
    all_goals first|exact eW|skip
   ·rw [if_neg (by replace h:=bJ h;omega)] at hN
    ((iterate 3 revert K);refine au ?_)
    refine az.mk (k+1) (by omega) (by omega) ?_;rw [hN];simp only [aM];refine bp ?_ aj
    all_goals first|exact eW|skip
  ·have e1:l.take k=l:=Wl (by replace h:=bJ h;omega);simp only [e1]
   ((iterate 3 revert K);refine au ?_;intro K hK K hK)
   refine ab.one S ?_
   (revert K;revert K;refine au ?_;intro K hK K hK)
   refine ab.one B ?_
   (revert K;revert K;refine au ?_)
   (refine jB.of 40 rfl ?_;simp only [go_sem])
def runM (s:bP) (w:List ByteArray):BitVec 32:=w.foldl (iu s) (ofM 0)
def uc (s:bP) (w:List ByteArray):Bool:=if w.length=0 then s.em else runM s w &&& s.la !=0#32
theorem G2 {o:List (Option aa)}: ∀(L:List AV) (n:Nat),(∀c∈L, ∃x,c = .v x)->L.length+2<=n-> ∃p,fQ o n L=some (p,L)∧p
 | [],n+1,_,_=>⟨True,rfl,trivial⟩
 | a :: l,n+2,hL,hn=>by
  obtain ⟨x,rfl⟩:=hL a (by simp);obtain ⟨p,h1,h2⟩:=G2 (o:=o) l (n+1) (fun c hc=>hL c (by simp [hc])) (by simp at hn;omega);exact ⟨((AV.v x).wf 0=true)∧p,by rw [fQ,h1];rfl,rfl,h2⟩
 | a :: l,0,_,hn=>by simp at hn
 | a :: l,1,_,hn=>by simp at hn
 | [],0,_,hn=>by simp at hn
def xT (x:Ex):bP:=⟨[],List.replicate 25 0#32,0#32,dj x⟩
def aN (x:Ex):bP:={ (oH x (xT x)).1 with fs:=(oH x (xT x)).1.fs.set 0 (oH x (xT x)).2.1,la:=(oH x (xT x)).2.2 }
theorem EN (x:Ex):(aB x).length<=(ai x).length:=by
 induction x using Ex.ind with
 | h k s l ih=>
  have hl: ∀m:List Ex,(∀y∈m,(aB y).length<=(ai y).length)->(aJ m).length<=(bE m).length:=fun m=>by
   induction m with
   | nil=>intro _;simp [aJ,bE]
   | cons y m ihm=>
    intro h;rw [aJ,bE,List.length_append,List.length_append];have h1:=h y (by simp);have h2:=ihm (fun z hz=>h z (by simp [hz]));omega
  have:=hl l ih
  rw [aB,ai,Uh]
  split
  ·simp
  ·omega
theorem qb {x:Ex} (h:ay x=true):(aB x).length<=24:=by
 simp only [ay,UW,decide_eq_true_eq] at h
 have:=EN x;omega
theorem Li (labs:List ByteArray) (f1 l1:BitVec 32) (rest:List (BitVec 32)) (em:Bool) (hr:rest.length=24) (o:List (Option aa)) (h1:o[1]? = some (some ⟨99,28,false,[.vec 2 labs.length :: aM f1 :: (rest.map aM++[aM l1, .v (.bool em)])]⟩)) (h2:o[2]? = some (some ⟨9,1,true,labs.map encS⟩)) :
  jB o (.cL [.ptr 1 0 28 0 0, .v (.int .i64 0)]) (.cL [.vp (il ⟨labs,f1 :: rest,l1,em⟩), .v (.int .i64 0)]):=by
 obtain ⟨p,hp,hp'⟩:=G2 (o:=o) (aM f1 :: (rest.map aM++[aM l1, .v (.bool em)])) 50 (fun c hc=>by
  simp only [Vt,List.mem_append,List.mem_map,List.not_mem_nil,or_false] at hc
  rcases hc with rfl|⟨y,_,rfl⟩|rfl|rfl
  ·exact ⟨_,rfl⟩
  ·exact ⟨_,rfl⟩
  ·exact ⟨_,rfl⟩
  ·exact ⟨_,rfl⟩) (by simp [hr])
 have e1:gW o 50 (.vec 2 labs.length)=some (True∧(labs.map encS).length=labs.length∧bw 0 (labs.map encS)=true, .aC 1 (labs.map encS) labs.length):=by
  rw [gW,h2];simp
 have e2:fQ o 51 (.vec 2 labs.length :: aM f1 :: (rest.map aM++[aM l1, .v (.bool em)]))=some ((True∧(labs.map encS).length=labs.length∧bw 0 (labs.map encS)=true)∧p, .aC 1 (labs.map encS) labs.length :: aM f1 :: (rest.map aM++[aM l1, .v (.bool em)])):=by
  rw [fQ,e1,hp]
 refine jB.of 54 (p:=((((True∧(labs.map encS).length=labs.length∧bw 0 (labs.map encS)=true)∧p)∧aa.hl ⟨99,28,false,[.vec 2 labs.length :: aM f1 :: (rest.map aM++[aM l1, .v (.bool em)])]⟩=0∧28=28∧0<1)∧(AV.v (.int .i64 0)).wf 0=true∧True)) ?_ ⟨⟨⟨⟨trivial,by simp,bm 0 labs⟩,hp'⟩,rfl,rfl,by decide⟩,rfl,trivial⟩;rw [gW,fQ,gW,h1];simp only [List.getD_cons_zero,e2]
 rfl
theorem PU (x:Ex) (ho:x.ok):ar Tryz.prog 32 [.agg (aS x)] (if ay x then .cL [.vp (il (aN x)), .v (.int .i64 0)] else .cL [.v (.pointer none), .v (.int .i64 2)]):=by
 have R:=uZ x ho;have E:=Cc x ho
 cases hr:ay x
 ·rw [hr] at R;simp only [Vu,if_false];simp only [aD] at *;refine gE Tryz.func32 Tryz.ntmps32 Tryz.results32 ?_
  (refine xj ?_;intro K hK K hK K hK)
  refine ab.one R ?_
  ((iterate 3 revert K);refine xj ?_)
  (refine jB.of 40 rfl ?_;simp only [go_sem])
 ·rw [hr] at R;simp only [if_true];have hnl:(aB x).length<=24:=qb hr;have P:=NM x ho hr (xT x) (by simp [xT]) (by simp [xT];exact hnl);have B:=oJ x (xT x) (by simp [xT]) (by simp [xT];exact hnl);simp only [aN];generalize oH x (xT x)=b at *;simp only [aD] at *;refine gE Tryz.func32 Tryz.ntmps32 Tryz.results32 ?_
  (refine xj ?_;intro K hK K hK K hK)
  refine ab.one R ?_
  ((iterate 3 revert K);refine xj ?_;intro K hK K hK)
  refine ab.one E ?_
  repeat ((fail_if_success (with_reducible refine bB (i:=4) ?_));first|(with_reducible first|refine aA.up ?_|refine fun (K:AK) hK=> ?_|refine ae (by decide) ?_|(refine hK _ ?_;clear hK K))|simp only [go_sem]|with_reducible refine wA ?_|(refine cG rfl ?_)|(refine cd rfl ?_)|clear hK K)
  refine bb (dD (k:=1) (i:=0) (j:=0) 9 1 (by decide) rfl (show 0<28 by decide) rfl rfl) (by kernel_rfl) ?_;simp only [Uh,List.length_nil,Nat.reduceAdd,List.cons_append,List.nil_append,List.set_cons_zero,List.set_cons_succ]
  repeat ((fail_if_success (with_reducible refine bB (i:=5) ?_));first|(with_reducible first|refine aA.up ?_|refine fun (K:AK) hK=> ?_|refine ae (by decide) ?_|(refine hK _ ?_;clear hK K))|simp only [go_sem]|with_reducible refine wA ?_|(refine cG rfl ?_)|(refine cd rfl ?_)|clear hK K)
  have wE:aX 2 [.ptr 0 0 28 0 0, .agg [.v (.int .i64 x.kind), .v (.string x.label), .aC 3 (x.kids.map aS) x.kids.length]]=true:=by simp only [aX,AV.wf,bf,Bool.and_self,Bool.true_and];rfl
  refine ab.fr [1,2] P (by decide) rfl ?_ wE ?_ ?_
  ·simp only [bS,AV.bd,e8 _ _ (bf 0 x.kids)];rfl
  ·intro i ob hi
   match i,hi with
   | 0,hi=>cases hi;rfl
   | 1,hi=>cases hi;rfl
   | i+2,hi=>simp [bP.os] at hi
  simp only [bP.os,bP.row,aM,fM,List.map_cons,List.map_nil,Option.map_some,aa.bd,cF,bS,AV.bd,xK,qh,Uh,List.length_nil,List.set_cons_zero,List.set_cons_succ,List.append_nil];have e1:sig [1,2] 3 1=2:=rfl;simp only [Nat.reduceAdd,e1];obtain ⟨⟨labs,fs,la,em⟩,f1,l1⟩:=b
  obtain ⟨f0,rest,rfl⟩: ∃f0 rest,fs=f0 :: rest:=by
   cases fs with
   | nil=>have:=B.len;simp at this
   | cons a r=>exact ⟨a,r,rfl⟩
  have hr24:rest.length=24:=by have:=B.len;simpa using this
  have t24:List.take 24 (rest.map aM++[.v (.int .u32 la.toNat), .v (.bool em)])=rest.map aM:=by rw [List.take_append_of_le_length (by simp [hr24]),Wl (by simp [hr24])]
  have d25:List.drop 25 (rest.map aM++[.v (.int .u32 la.toNat), .v (.bool em)])=[.v (.bool em)]:=by
   rw [show 25=(rest.map aM).length+1 by simp [hr24],List.drop_append];simp
  simp only [List.map_cons,aM,List.cons_append]
  repeat ((fail_if_success (with_reducible refine bB (i:=5) ?_));first|(with_reducible first|refine aA.up ?_|refine fun (K:AK) hK=> ?_|refine ae (by decide) ?_|(refine hK _ ?_;clear hK K))|simp only [go_sem]|with_reducible refine wA ?_|(refine cG rfl ?_)|(refine cd rfl ?_)|clear hK K)
  refine bV [9,12] [(5,1000)] (by decide+kernel) (by kernel_rfl) ?_
  repeat (first|(with_reducible first|refine aA.up ?_|refine fun (K:AK) hK=> ?_|refine ae (by decide) ?_|(refine hK _ ?_;clear hK K))|simp only [go_sem,t24,d25]|with_reducible refine wA ?_|(refine cG rfl ?_)|(refine cd rfl ?_)|clear hK K)
  refine Li labs f1 l1 rest em hr24 _ rfl rfl
structure MO (x:Ex) (s:bP):Prop where
 labs:s.labs=aB x
 ok:yb s
 fst: ∀q,(s.fs.getD 0 0#32).getLsbD q=true↔jN x 0 q
 qD: ∀p q,p≠0->((s.fs.getD p 0#32).getLsbD q=true↔iI x 0 p q)
 vw: ∀q,s.la.getLsbD q=true↔jd x 0 q
 em:s.em=aG x
theorem ik {x:Ex} (hr:ay x=true):MO x (aN x):=by
 have hn:=qb hr;have B:=oJ x (xT x) (by simp [xT]) (by simp [xT];exact hn)
 have hz: ∀p,(xT x).fs.getD p 0#32=0#32:=fun p=>by
  simp only [xT,U3,List.getElem?_replicate];split<;>rfl
 have hb:(xT x).labs.length=0:=rfl;have hl:(aN x).labs=aB x:=B.labs
 have hlen:(aN x).fs.length=25:=by simp only [aN,List.length_set];exact B.len
 have h0: ∀q,((aN x).fs.getD 0 0#32).getLsbD q=true↔jN x 0 q:=fun q=>by
  simp only [aN];rw [pX (by rw [B.len];decide),if_pos rfl,B.fst,hb]
 have hp: ∀p q,p≠0->(((aN x).fs.getD p 0#32).getLsbD q=true↔iI x 0 p q):=fun p q hp=>by
  simp only [aN];rw [pX (by rw [B.len];decide),if_neg hp,B.qD,hb,hz];simp
 have hla: ∀q,(aN x).la.getLsbD q=true↔jd x 0 q:=fun q=>by
  have:=B.vw q;rw [hb] at this;exact this
 refine ⟨hl,⟨hlen,by rw [hl];exact hn,fun p q h=> ?_,fun q h=> ?_⟩,h0,hp,hla, ?_⟩
 ·rw [hl]
  by_cases e:p=0
  ·subst e;have:=gv x ((h0 q).1 h);omega
  ·have:=(dB x ((hp p q e).1 h)).2;omega
 ·rw [hl];have:=fA x ((hla q).1 h);omega
 ·show (oH x (xT x)).1.em=_;rw [B.em];simp [xT,dj,hr]
theorem run_get {s:bP} (ok:yb s) {q:Nat}: ∀(w:List ByteArray) (m:BitVec 32),(w.foldl (iu s) m).getLsbD q=true ↔ ∃p,m.getLsbD p=true∧bg (fun p q=>(s.fs.getD p 0#32).getLsbD q=true) (fun p=>ec s p) p w q
 | [],m=>by simp [bg]
 | a :: w,m=>by
  rw [VN,run_get ok w]
  constructor
  ·rintro ⟨r,h1,h2⟩;obtain ⟨p,k1,k2,k3⟩:=(ku ok).1 h1;exact ⟨p,k1,r,k2,toList_inj.1 (by simpa using k3),h2⟩
  ·rintro ⟨p,k1,r,k2,rfl,h2⟩;exact ⟨r,(ku ok).2 ⟨p,k1,k2,rfl⟩,h2⟩
theorem Fv {x:Ex} (hr:ay x=true) (w:List ByteArray):uc (aN x) w=jH x w:=by
 have N:=ik hr;have F:=(dX hr).1
 by_cases h0:w.length=0
 ·obtain rfl:=UM h0;rw [uc,if_pos h0,N.em,Wm,fF F,ia];simp [hr]
 ·rw [uc,if_neg h0,Wm,ia];simp only [hr,true_and];have hw:w≠[]:=fun e=>h0 (by rw [e];rfl)
  have hg:nj (aB x) 0 (fun p=>ec (aN x) p):=fun i a hi=>by
   have hlt:=(List.getElem?_eq_some_iff.1 hi).1;show ec (aN x) ((0+1+i:Nat):Int)=a;rw [ec,if_pos (by rw [N.labs];omega),N.labs,U3,show (((0+1+i:Nat):Int) - 1).toNat=i by omega,hi];rfl
  rw [TE F hg hw]
  have h1:(runM (aN x) w &&& (aN x).la !=0#32)=true ↔ ∃q,(runM (aN x) w).getLsbD q=true∧(aN x).la.getLsbD q=true:=by
   rw [bne_iff_ne]
   constructor
   ·intro h
    by_cases hb:aq (runM (aN x) w &&& (aN x).la)=[]
    ·exact absurd (pR hb) h
    ·obtain ⟨q,hq⟩:=Wn _ hb
     have:=aW.1 hq
     rw [VY,UW] at this;exact ⟨q,this⟩
   ·rintro ⟨q,h1,h2⟩ e
    have:(runM (aN x) w &&& (aN x).la).getLsbD q=true:=by rw [VY,h1,h2];rfl
    rw [e] at this;simp at this
  rw [h1]
  cases w with
  | nil=>exact absurd rfl hw
  | cons a v=>
   simp only [cy]
   have hst: ∀p,(ofM 0).getLsbD p=true↔p=0:=fun p=>by rw [o6,decide_eq_true_eq];omega
   have hc: ∀(v:List ByteArray) p q,p≠0->(bg (fun p q=>((aN x).fs.getD p 0#32).getLsbD q=true) (fun p=>ec (aN x) p) p v q↔bg (iI x 0) (fun p=>ec (aN x) p) p v q):=fun v=>by
    induction v with
    | nil=>intro p q _;exact Iff.rfl
    | cons b v ih=>
     intro p q hp;simp only [bg]
     constructor
     ·rintro ⟨r,k1,k2,k3⟩;have k4:=(N.qD p r hp).1 k1
      have:=(dB x k4).2
      exact ⟨r,k4,k2,(ih r q (by omega)).1 k3⟩
     ·rintro ⟨r,k1,k2,k3⟩
      have:=(dB x k1).2
      exact ⟨r,(N.qD p r hp).2 k1,k2,(ih r q (by omega)).2 k3⟩
   constructor
   ·rintro ⟨q,h2,h3⟩;obtain ⟨p,k1,r,k2,k3,k4⟩:=(run_get N.ok _ _).1 h2;obtain rfl:=(hst p).1 k1;have k5:=(N.fst r).1 k2
    have:=gv x k5
    exact ⟨r,q,k5,k3,(hc v r q (by omega)).1 k4,(N.vw q).1 h3⟩
   ·rintro ⟨r,q,k1,k2,k3,k4⟩
    have:=gv x k1
    exact ⟨q,(run_get N.ok _ _).2 ⟨0,(hst 0).2 rfl,r,(N.fst r).2 k1,k2,(hc v r q (by omega)).2 k3⟩,(N.vw q).2 k4⟩
theorem Ko {m n:BitVec 32} (h: ∀q,m.getLsbD q=true↔n.getLsbD q=true):m=n:=by
 refine BitVec.eq_of_getLsbD_eq fun q _=> ?_;exact Wm.2 (h q)
def bq (l:List Nat):List Int:=l.map (fun (p:Nat)=>(p:Int))
theorem Eh (l:List Nat):aI l=(bq l).map encI:=by rw [aI,bq,List.map_map];rfl
theorem vg (l:List Nat):(bq l).length=l.length:=by rw [bq,List.length_map]
theorem Bf {s:bP} (ok:yb s) {m:BitVec 32} (h: ∀p,m.getLsbD p=true->p<=s.labs.length):fG s (bq (aq m))=m:=by
 refine Ko fun q=> ?_;rw [fG,j9 ok,bq];simp only [BitVec.getLsbD_zero,Vu,false_or,List.mem_map,Int.natCast_inj,exists_eq_right,aW];exact ⟨fun h=>h.1,fun k=>⟨k,h q k⟩⟩
theorem zD {p:Nat}:(ofM 0).getLsbD p=true↔p=0:=by rw [o6,decide_eq_true_eq];omega
def Ka (a b:List Nat):Bool:=a.any (fun p=>b.any (fun q=>(q:Int)==(p:Int)))
theorem rQ {a b:List Nat}:Ka a b=true ↔ ∃p,p∈a∧p∈b:=by
 simp only [Ka,List.any_eq_true,beq_iff_eq,Int.natCast_inj]
 constructor
 ·rintro ⟨p,h1,q,h2,rfl⟩;exact ⟨q,h1,h2⟩
 ·rintro ⟨p,h1,h2⟩;exact ⟨p,h1,p,h2,rfl⟩
theorem Cq (m n:BitVec 32):(m &&& n !=0#32)=Ka (aq m) (aq n):=by
 rw [Wm,rQ,bne_iff_ne];simp only [aW]
 constructor
 ·intro h
  by_cases hb:aq (m &&& n)=[]
  ·exact absurd (pR hb) h
  ·obtain ⟨q,hq⟩:=Wn _ hb
   have:=aW.1 hq
   rw [VY,UW] at this;exact ⟨q,this⟩
 ·rintro ⟨q,h1,h2⟩ e
  have:(m &&& n).getLsbD q=true:=by rw [VY,h1,h2];rfl
  rw [e] at this;simp at this
theorem GS {s:bP} (ok:yb s) (w:List ByteArray):((w.length==0&&s.em)||Ka (aq (runM s w)) (aq s.la))=uc s w:=by
 rw [uc, <- Cq]
 by_cases h0:w.length=0
 ·rw [if_pos h0,h0];obtain rfl:=UM h0
  have:(runM s [] &&& s.la !=0#32)=false:=by
   rw [Cq, <- Bool.not_eq_true,rQ];rintro ⟨p,h1,h2⟩;have h3:=zD.1 (aW.1 h1)
   have:=ok.la p (aW.1 h2)
   omega
  rw [this];simp
 ·rw [if_neg h0,beq_eq_false_iff_ne.2 h0];simp
theorem yY {x:Ex} (h:Fit x): ∀b, ∃q,jN x b q:=by
 induction h with
 | lab s=>intro b;exact ⟨b+1,by rw [jN,if_pos rfl]⟩
 | many k s l hk hl _ ih=>
  intro b
  cases l with
  | nil=>simp at hl
  | cons x l=>
   obtain ⟨q,hq⟩:=ih x (by simp) b;refine ⟨q, ?_⟩;rw [jN]
   rcases hk with rfl|rfl
   ·simp [gp,hq]
   ·simp [fN,hq]
 | one k s x hk _ ih=>
  intro b;obtain ⟨q,hq⟩:=ih b;refine ⟨q, ?_⟩;rw [jN]
  rcases hk with rfl|rfl|rfl<;>simp [fN,hq]
theorem wQ {g:Nat->ByteArray}: ∀(l:List Ex),l≠[]->(∀x∈l,Fit x∧ ∀b p,b<p->p<=b+(aB x).length-> ∃w q,bg (iI x b) g p w q∧jd x b q)-> ∀b p,b<p->p<=b+(aJ l).length-> ∃w q,bg (gn l b) g p w q∧jj l b q
 | [],h,_,_,_,_,_=>absurd rfl h
 | x :: xs,_,h,b,p,h1,h2=>by
  rw [aJ,Ug] at h2;have hS: ∀w p q,bg (gn xs (b+(aB x).length)) g p w q->bg (gn (x :: xs) b) g p w q:=fun w p q hc=>hc.imp (fun p q hf=>by rw [gn];exact .inr (.inl hf));have hX: ∀w p q,bg (iI x b) g p w q->bg (gn (x :: xs) b) g p w q:=fun w p q hc=>hc.imp (fun p q hf=>by rw [gn];exact .inl hf)
  rcases Nat.lt_or_ge (b+(aB x).length) p with q|q
  ·have hne:xs≠[]:=by rintro rfl;simp [aJ] at h2;omega
   obtain ⟨w,r,k1,k2⟩:=wQ xs hne (fun y hy=>h y (U8 _ hy)) _ p q (by omega);exact ⟨w,r,hS _ _ _ k1,by rw [jj];exact .inr k2⟩
  ·obtain ⟨w,r,k1,k2⟩:=(h x Va).2 b p h1 q
   cases hxs:xs with
   | nil=>subst hxs;exact ⟨w,r,hX _ _ _ k1,by rw [jj];exact .inl ⟨rfl,k2⟩⟩
   | cons y ys=>
    obtain ⟨f,hf⟩:=yY (h y (by rw [hxs];simp)).1 (b+(aB x).length)
    have hfS:gp xs (b+(aB x).length) f:=by rw [hxs,gp];exact .inl hf
    have hr:=fl (pI hfS);obtain ⟨w2,r2,m1,m2⟩:=wQ xs (by rw [hxs];simp) (fun y hy=>h y (U8 _ hy)) _ f hr.1 hr.2;rw [<-hxs];exact ⟨w++g f :: w2,r2,bg.app.2 ⟨r,hX _ _ _ k1,f,by rw [gn];exact .inr (.inr ⟨k2,hfS⟩),rfl,hS _ _ _ m1⟩,by rw [jj];exact .inr m2⟩
theorem wP {g:Nat->ByteArray}: ∀(l:List Ex),(∀x∈l, ∀b p,b<p->p<=b+(aB x).length-> ∃w q,bg (iI x b) g p w q∧jd x b q)-> ∀b p,b<p->p<=b+(aJ l).length-> ∃w q,bg (gS l b) g p w q∧fO l b q
 | [],_,b,p,h1,h2=>by simp [aJ] at h2;omega
 | x :: xs,h,b,p,h1,h2=>by
  rw [aJ,Ug] at h2
  rcases Nat.lt_or_ge (b+(aB x).length) p with q|q
  ·obtain ⟨w,r,k1,k2⟩:=wP xs (fun y hy=>h y (U8 _ hy)) _ p q (by omega);exact ⟨w,r,k1.imp (fun p q hf=>by rw [gS];exact .inr hf),by rw [fO];exact .inr k2⟩
  ·obtain ⟨w,r,k1,k2⟩:=h x Va b p h1 q;exact ⟨w,r,k1.imp (fun p q hf=>by rw [gS];exact .inl hf),by rw [fO];exact .inl k2⟩
theorem Pm {g:Nat->ByteArray} {x:Ex} (h:Fit x): ∀b p,b<p->p<=b+(aB x).length-> ∃w q,bg (iI x b) g p w q∧jd x b q:=by
 induction h with
 | lab s=>
  intro b p h1 h2;rw [aB,if_pos rfl] at h2;exact ⟨[],p,rfl,by rw [jd,if_pos rfl];simp at h2;omega⟩
 | many k s l hk hl hf ih=>
  intro b p h1 h2
  have hk1:k≠1:=by rcases hk with rfl|rfl<;>decide
  rw [cK hk1] at h2
  rcases hk with rfl|rfl
  ·obtain ⟨w,r,k1,k2⟩:=wQ l (by rintro rfl;simp at hl) (fun x hx=>⟨hf x hx,ih x hx⟩) b p h1 h2;exact ⟨w,r,k1.imp (fun p q hf=>by rw [iI,if_neg (by decide),if_pos rfl];exact hf),by rw [jd,if_neg (by decide),if_pos rfl];exact k2⟩
  ·obtain ⟨w,r,k1,k2⟩:=wP l ih b p h1 h2;exact ⟨w,r,k1.imp (fun p q hf=>by rw [iI,if_neg (by decide),if_neg (by decide)];exact .inl hf),by rw [jd,if_neg (by decide),if_neg (by decide)];exact k2⟩
 | one k s x hk hf ih=>
  intro b p h1 h2
  have hk1:k≠1:=by rcases hk with rfl|rfl|rfl<;>decide
  have hk2:k≠2:=by rcases hk with rfl|rfl|rfl<;>decide
  rw [cK hk1] at h2;obtain ⟨w,r,k1,k2⟩:=wP [x] (fun y hy=>by simp only [List.mem_singleton] at hy;subst hy;exact ih) b p h1 h2;exact ⟨w,r,k1.imp (fun p q hf=>by rw [iI,if_neg hk1,if_neg hk2];exact .inl hf),by rw [jd,if_neg hk1,if_neg hk2];exact k2⟩
def aP (s:bP) (cur:List Nat) (lab:ByteArray):List Nat:=aq (iu s (fG s (bq cur)) lab)
theorem u4 {s:bP} (ok:yb s) {l:List Nat} {q:Nat}:(fG s (bq l)).getLsbD q=true↔q∈l∧q<=s.labs.length:=by
 rw [fG,j9 ok]
 have:(q:Int)∈bq l↔q∈l:=by
  rw [bq,List.mem_map];exact ⟨fun ⟨a,h1,h2⟩=>by rw [<-Int.ofNat_inj.1 h2];exact h1,fun h=>⟨q,h,rfl⟩⟩
 simp [this]
theorem ji {s:bP} (ok:yb s) {cur:List Nat} {lab:ByteArray} {q:Nat}:q∈aP s cur lab ↔ ∃p,p∈cur∧p<=s.labs.length∧(s.fs.getD p 0#32).getLsbD q=true∧ec s q=lab:=by
 rw [aP,aW,ku ok]
 constructor
 ·rintro ⟨p,h1,h2,h3⟩;obtain ⟨k1,k2⟩:=(u4 ok).1 h1;exact ⟨p,k1,k2,h2,toList_inj.1 (by simpa using h3)⟩
 ·rintro ⟨p,h1,h2,h3,rfl⟩;exact ⟨p,(u4 ok).2 ⟨h1,h2⟩,h3,rfl⟩
theorem BY {s:bP} (ok:yb s) {m:BitVec 32} (hm: ∀p,m.getLsbD p=true->p<=s.labs.length) (lab:ByteArray):aP s (aq m) lab=aq (iu s m lab):=by rw [aP,Bf ok hm]
theorem Jd {s:bP} (ok:yb s) {m:BitVec 32} {lab:ByteArray}: ∀p,(iu s m lab).getLsbD p=true->p<=s.labs.length:=fun p h=>by
 obtain ⟨_,_,h,_⟩:=(ku ok).1 h;exact (ok.qD _ _ h).2
theorem vT {s:bP} (ok:yb s): ∀(w:List ByteArray) (m:BitVec 32),(∀p,m.getLsbD p=true->p<=s.labs.length)->w.foldl (aP s) (aq m)=aq (w.foldl (iu s) m)
 | [],m,_=>rfl
 | l :: w,m,h=>by rw [VN,VN,BY ok h,vT ok w _ (Jd ok)]
structure pB where
 rows:List aR
 ends:List Bool
 labs:List ByteArray
noncomputable def my (x:Ex) (labs:List ByteArray):Option mG:=ny (aP (aN x)) (aN x).em (aq (aN x).la) labs
def fX (labs:List ByteArray) (st:mG):pB:=⟨(cq st.rows st.ends (br st.rows st.ends)).rows,(cq st.rows st.ends (br st.rows st.ends)).ends,labs⟩
noncomputable def iF (x:Ex) (labs:List ByteArray):pB ⊕ Int:=
 if ay x then match my x labs with
  | some st=>if 32<(fX labs st).rows.length then .inr 11 else .inl (fX labs st)
  | none=> .inr 11
 else .inr 2
structure AOk (A:pB):Prop where
 pos:1<=A.rows.length
 max:A.rows.length<=32
 ends:A.ends.length=A.rows.length
 row: ∀r∈A.rows,(r.map Prod.fst).Sublist A.labs∧ ∀p∈r,p.2<A.rows.length
theorem qq {labs:List ByteArray} {st:mG} (ho:AG labs st) (hl:st.rows.length=st.all.length): ∀r∈st.rows, ∀p∈r,p.2<st.rows.length:=fun r hr p hp=>by rw [hl];exact (ho.row r hr).2 p hp
theorem Dl {labs:List ByteArray} (hn:labs.Nodup) {st:mG} (ho:AG labs st): ∀r∈st.rows,(r.map Prod.fst).Nodup:=fun r hr=>(ho.row r hr).1.nodup hn
theorem qp {labs:List ByteArray} (hs: ∀l∈labs,32∉l.data.toList) {st:mG} (ho:AG labs st):o5 st.rows:=fun r hr p hp=>hs _ ((ho.row r hr).1.subset (List.mem_map_of_mem hp))
structure L9 (x:Ex) (A:pB):Prop extends AOk A where
 Ta: ∀w,bK A.rows A.ends 0 w=jH x w
 alive: ∀s,s<A.rows.length-> ∃w,bK A.rows A.ends s w=true
theorem CG {s:bP} (ok:yb s): ∀(w:List ByteArray) {cur:List Nat} {p q:Nat},p∈cur->p<=s.labs.length->bg (fun p q=>(s.fs.getD p 0#32).getLsbD q=true) (fun p=>ec s p) p w q->q∈w.foldl (aP s) cur
 | [],cur,p,q,h1,h2,h3=>by cases h3;exact h1
 | l :: w,cur,p,q,h1,h2,⟨r,k1,k2,k3⟩=>by
  rw [VN];exact CG ok w ((ji ok).2 ⟨p,h1,h2,k1,k2⟩) (ok.qD _ _ k1).2 k3
theorem DV {x:Ex} (hr:ay x=true) {labs:List ByteArray} (hn:labs.Nodup) (hs: ∀l∈labs,32∉l.data.toList) (hm: ∀l∈aB x,l∈labs) {A:pB} (h:iF x labs = .inl A):L9 x A:=by
 have N:=ik hr;have F:=(dX hr).1;rw [iF,if_pos hr] at h
 split at h
 ·rename_i st hst
  split at h
  ·cases h
  ·rename_i h32;simp only [Sum.inl.injEq] at h;obtain ⟨ho,hl,hw⟩:=xR (aP (aN x)) (aN x).em (aq (aN x).la) hn hst;have hz0:(st.all)[0]? = some [0]:=hw.zero
   have hpos:0<st.rows.length:=by rw [hl];exact (List.getElem?_eq_some_iff.1 hz0).1
   have hT:=qq ho hl;have hN:=Dl hn ho;obtain ⟨hS,hpl⟩:=tG st.rows st.ends (qp hs ho) hT hpos ho.ends;obtain ⟨qo,ql,qw⟩:=zn (ends:=st.ends) hT hN hpos (br st.rows st.ends)
   have ha: ∀l,aP (aN x) [] l=[]:=fun l=>Wo.2 fun q hq=>by
    obtain ⟨p,hp,_⟩:=(ji N.ok).1 hq;simp at hp
   have hlab: ∀q,1<=q->q<=(aN x).labs.length->ec (aN x) q∈labs:=fun q h1 h2=>by
    rw [ec,if_pos (by omega)];refine hm _ ?_;rw [<-N.labs];exact aQ (by omega)
   have hx: ∀cur l,l∉labs->aP (aN x) cur l=[]:=fun cur l hl=>Wo.2 fun q hq=>by
    obtain ⟨p,_,_,k,rfl⟩:=(ji N.ok).1 hq;obtain ⟨q1,q2⟩:=N.ok.qD _ _ k;exact hl (hlab q q1 q2)
   have h0: ∀cur l,0∉aP (aN x) cur l:=fun cur l hq=>by
    obtain ⟨p,_,_,k,_⟩:=(ji N.ok).1 hq
    have:=(N.ok.qD _ _ k).1;omega
   have hla:0∉aq (aN x).la:=fun hq=>by have:=(N.ok.la _ (aW.1 hq)).1;omega
   have hlen:A.rows.length=(cq st.rows st.ends (br st.rows st.ends)).order.length:=by rw [<-h];exact ql
   have hA: ∀k w,k<A.rows.length->bK A.rows A.ends k w=bK st.rows st.ends ((cq st.rows st.ends (br st.rows st.ends)).order.getD k 0) w:=fun k w hk=>by
    rw [<-h];exact qK hT hS qo ql qw w (by rw [<-hlen];exact hk)
   have hp1:1<=A.rows.length:=by
    rw [hlen]
    have:=qo.le;rw [ql] at this
    refine Nat.one_le_iff_ne_zero.2 fun e=> ?_;have q0:=zL (rows:=st.rows) (part:=br st.rows st.ends) (ends:=st.ends) (st.rows.length+1) (st:=q0)
    have:1<=(cq st.rows st.ends (br st.rows st.ends)).order.length:=q0
    omega
   refine ⟨⟨hp1, ?_, ?_,fun r hr=> ?_⟩,fun w=> ?_,fun s hs=> ?_⟩
   ·have:=h32;rw [h] at this;omega
   ·rw [<-h];exact qo.ends
   ·obtain ⟨k,hk,rfl⟩:=List.getElem_of_mem hr
    have hk':k<(cq st.rows st.ends (br st.rows st.ends)).rows.length:=by rw [<-h] at hk;exact hk
    obtain ⟨r1,r2⟩:=qo.row k hk'
    have e:A.rows[k]=(cq st.rows st.ends (br st.rows st.ends)).rows.getD k []:=by
     subst h;rw [List.getD_eq_getElem?_getD,Uq hk'];rfl
    have hlabs:A.labs=labs:=by rw [<-h];rfl
    rw [e,r1,hlabs,hlen];exact ⟨(ho.row _ (aQ (qo.lt _ (aQ (by rw [<-ql];exact hk'))))).1,r2⟩
   ·rw [hA 0 w (by omega),qw.zero,BX hl hw ha hx h0 hla, <- Fv hr, <- GS N.ok]
    have e0:([0]:List Nat)=aq (ofM 0):=by rfl
    rw [e0,vT N.ok w (ofM 0) (fun p hp=>by rw [zD] at hp;omega)]
    congr 1
    rw [Bool.eq_iff_iff,rQ,List.any_eq_true];simp [runM]
   ·rw [hlen] at hs;have hi:=qo.lt _ (aQ (d:=0) hs)
    have hi':(cq st.rows st.ends (br st.rows st.ends)).order.getD s 0<st.all.length:=by omega
    obtain ⟨hne,hmade⟩:=Fs (aP (aN x)) (aN x).em (aq (aN x).la) hst _ (Vx hi');obtain ⟨p,hp⟩:=List.exists_mem_of_ne_nil _ hne
    have hpb:p<=(aN x).labs.length:=by
     rcases hmade with e|⟨cur,l,e⟩
     ·rw [e] at hp;simp at hp;omega
     ·rw [e] at hp;obtain ⟨_,_,_,k,_⟩:=(ji N.ok).1 hp;exact (N.ok.qD _ _ k).2
    obtain ⟨w,q,hc,hq⟩: ∃w q,bg (fun p q=>((aN x).fs.getD p 0#32).getLsbD q=true) (fun p=>ec (aN x) p) p w q∧jd x 0 q:=by
     have up: ∀p,0<p->p<=(aN x).labs.length-> ∃w q,bg (fun p q=>((aN x).fs.getD p 0#32).getLsbD q=true) (fun p=>ec (aN x) p) p w q∧jd x 0 q:=fun p h1 h2=>by
      obtain ⟨w,q,k1,k2⟩:=Pm (g:=fun p=>ec (aN x) p) F 0 p h1 (by rw [<-N.labs];omega)
      have:=bg.stay (S:=fun p=>p≠0) (F:=fun p q=>((aN x).fs.getD p 0#32).getLsbD q=true) (fun p q hp hf=>⟨(N.qD p q hp).2 hf,by have:=(dB x hf).2;omega⟩) (by omega) k1
      exact ⟨w,q,this.1,k2⟩
     by_cases e:p=0
     ·subst e;obtain ⟨f,hf⟩:=yY F 0;have hfr:=gv x hf;obtain ⟨w,q,k1,k2⟩:=up f (by omega) (by rw [N.labs];omega);exact ⟨_ :: w,q,⟨f,(N.fst f).2 hf,rfl,k1⟩,k2⟩
     ·exact up p (by omega) hpb
    refine ⟨w, ?_⟩;rw [hA s w (by rw [hlen];exact hs)];exact Fq hl hw ha hx w (Uq hi') hne (CG N.ok w hp hpb hc) (aW.2 ((N.vw q).2 hq))
 ·cases h
def GA:Go.Shelf.Ren:=⟨fun|169=>91|n=>n,fun|70=>134|9=>9|0=>0|72=>136|37=>122|127=>179|3=>3|5=>5|n=>n,fun n=>n⟩
theorem Kq:Lays.n169 Tryz.prog GA:={
 mixed:=by kernel_rfl
 f169:=Tryz.func91
 t0:=by kernel_rfl
 a0:=fun w=>by kernel_rfl
 z0:=fun w=>by kernel_rfl
 v0:=fun w=>by kernel_rfl
 t3:=by kernel_rfl
 a3:=fun w=>by kernel_rfl
 z3:=fun w=>by kernel_rfl
 v3:=fun w=>by kernel_rfl
 t9:=by kernel_rfl
 a9:=fun w=>by kernel_rfl
 z9:=fun w=>by kernel_rfl
 v9:=fun w=>by kernel_rfl
 t37:=by kernel_rfl
 a37:=fun w=>by kernel_rfl
 z37:=fun w=>by kernel_rfl
 v37:=fun w=>by kernel_rfl
 t70:=by kernel_rfl
 a70:=fun w=>by kernel_rfl
 z70:=fun w=>by kernel_rfl
 v70:=fun w=>by kernel_rfl
 t72:=by kernel_rfl
 a72:=fun w=>by kernel_rfl
 z72:=fun w=>by kernel_rfl
 v72:=fun w=>by kernel_rfl
 t127:=by kernel_rfl
 a127:=fun w=>by kernel_rfl
 z127:=fun w=>by kernel_rfl
 v127:=fun w=>by kernel_rfl }
def CU:Go.Shelf.Ren:=⟨fun|171=>90|243=>128|246=>147|283=>161|284=>162|285=>163|286=>164|129=>126|317=>173|318=>174|319=>175|320=>176|337=>139|338=>178|n=>n,fun|3=>3|9=>9|2=>2|4=>4|171=>207|0=>0|53=>178|37=>122|5=>5|173=>209|212=>217|51=>95|20=>20|213=>218|46=>121|232=>203|233=>220|n=>n,fun|17=>1|18=>0|19=>2|n=>n⟩
theorem vi:Lays.n171 Tryz.prog CU:={
 mixed:=by kernel_rfl
 f129:=Tryz.func126
 f171:=Tryz.func90
 f243:=Tryz.func128
 f246:=Tryz.func147
 f283:=Tryz.func161
 f284:=Tryz.func162
 f285:=Tryz.func163
 f286:=Tryz.func164
 f317:=Tryz.func173
 f318:=Tryz.func174
 f319:=Tryz.func175
 f320:=Tryz.func176
 f337:=Tryz.func139
 f338:=Tryz.func178
 t0:=by kernel_rfl
 a0:=fun w=>by kernel_rfl
 z0:=fun w=>by kernel_rfl
 v0:=fun w=>by kernel_rfl
 t2:=by kernel_rfl
 a2:=fun w=>by kernel_rfl
 z2:=fun w=>by kernel_rfl
 v2:=fun w=>by kernel_rfl
 t3:=by kernel_rfl
 a3:=fun w=>by kernel_rfl
 z3:=fun w=>by kernel_rfl
 v3:=fun w=>by kernel_rfl
 t4:=by kernel_rfl
 a4:=fun w=>by kernel_rfl
 z4:=fun w=>by kernel_rfl
 v4:=fun w=>by kernel_rfl
 t5:=by kernel_rfl
 a5:=fun w=>by kernel_rfl
 z5:=fun w=>by kernel_rfl
 v5:=fun w=>by kernel_rfl
 t9:=by kernel_rfl
 a9:=fun w=>by kernel_rfl
 z9:=fun w=>by kernel_rfl
 v9:=fun w=>by kernel_rfl
 t20:=by kernel_rfl
 a20:=fun w=>by kernel_rfl
 z20:=fun w=>by kernel_rfl
 v20:=fun w=>by kernel_rfl
 t37:=by kernel_rfl
 a37:=fun w=>by kernel_rfl
 z37:=fun w=>by kernel_rfl
 v37:=fun w=>by kernel_rfl
 t46:=by kernel_rfl
 a46:=fun w=>by kernel_rfl
 z46:=fun w=>by kernel_rfl
 v46:=fun w=>by kernel_rfl
 t51:=by kernel_rfl
 a51:=fun w=>by kernel_rfl
 z51:=fun w=>by kernel_rfl
 v51:=fun w=>by kernel_rfl
 t53:=by kernel_rfl
 a53:=fun w=>by kernel_rfl
 z53:=fun w=>by kernel_rfl
 v53:=fun w=>by kernel_rfl
 t171:=by kernel_rfl
 a171:=fun w=>by kernel_rfl
 z171:=fun w=>by kernel_rfl
 v171:=fun w=>by kernel_rfl
 t173:=by kernel_rfl
 a173:=fun w=>by kernel_rfl
 z173:=fun w=>by kernel_rfl
 v173:=fun w=>by kernel_rfl
 t212:=by kernel_rfl
 a212:=fun w=>by kernel_rfl
 z212:=fun w=>by kernel_rfl
 v212:=fun w=>by kernel_rfl
 t213:=by kernel_rfl
 a213:=fun w=>by kernel_rfl
 z213:=fun w=>by kernel_rfl
 t232:=by kernel_rfl
 a232:=fun w=>by kernel_rfl
 z232:=fun w=>by kernel_rfl
 v232:=fun w=>by kernel_rfl
 t233:=by kernel_rfl
 a233:=fun w=>by kernel_rfl
 z233:=fun w=>by kernel_rfl
 v233:=fun w=>by kernel_rfl
 g17:=by kernel_rfl
 g18:=by kernel_rfl
 g19:=by kernel_rfl }
theorem Hn:LaysM.n171 Tryz.prog CU:={ vi with
 i0:=by kernel_rfl
 i2:=by kernel_rfl
 i3:=by kernel_rfl
 i4:=by kernel_rfl
 i5:=by kernel_rfl
 i9:=by kernel_rfl
 i20:=by kernel_rfl
 i37:=by kernel_rfl
 i46:=by kernel_rfl
 i51:=by kernel_rfl
 i53:=by kernel_rfl
 i171:=by kernel_rfl
 i173:=by kernel_rfl
 i212:=by kernel_rfl
 i232:=by kernel_rfl
 i233:=by kernel_rfl
 m17:=by kernel_rfl
 m18:=by kernel_rfl
 m19:=by kernel_rfl }
theorem Gv:(Tryz.prog.info? 136).map (·.size)=some 2:=by kernel_rfl
theorem Mh:liesAt Tryz.prog Tryz.prog.depth 136 (2 / Tryz.prog.cellsOf 136) 0 136 1=true:=by kernel_rfl
theorem Mg:(Tryz.prog.info? 5).map (fun i=>(i.zero,i.size,i.bytes))=some (some (.int .u8 0),1,1):=by kernel_rfl
theorem M4:Builder.Extra Tryz.prog GA:={ sizeBuilder:=Gv,liesBuilder:=Mh,t5:=by kernel_rfl,a5:=fun w=>by kernel_rfl,z5:=fun w=>by kernel_rfl,v5:=fun w=>by kernel_rfl,infoByte:=Mg,cellsByte:=by kernel_rfl,sizeByte:=by kernel_rfl,neB5:=by decide }
theorem Sw:Tryz.prog.underlying 134=some (.pointer 136):=by kernel_rfl
theorem Tb:Tryz.prog.underlying 192=some .unsafePointer:=by kernel_rfl
theorem uv (b:Nat) (w:World) (h0:w.cell? ⟨b,0,none⟩=some (.pointer none)) (hsh:w.shape? b=some (136,2)) (hfz:w.frozen? ⟨b,0,none⟩=false) :
  Calls Tryz.prog 127 #[.pointer (some ⟨b,0,none⟩)] w fun e w'=>e = .returned (.tuple #[])∧w'=w.setCell ⟨b,0,none⟩ (.pointer (some ⟨b,0,none⟩)):=by
 obtain ⟨j,hj,hjs⟩:=UQ.1 Gv
 go_enter Tryz.func127,Tryz.ntmps127
 go_wp2
 rw [Lib.run_to_unsafe w ⟨b,0,none⟩ Sw Tb hj (by rw [hjs];decide) hsh (Nat.zero_lt_succ 1)];simp only [Result.andThen];rw [Oper.upon_value]
 go_wp2
 rw [run_callFunc_extern Tryz.func146 (by kernel_rfl) (by kernel_rfl) (by kernel_rfl) (e:=Extern.AbiNoEscape.same) (by kernel_rfl)];rw [Lib.run_noEscape];simp only [Result.andThen];rw [Oper.upon_value]
 go_wp2
 rw [Lib.run_from_unsafe w ⟨b,0,none⟩ Tb Sw hj hsh Mh];simp only [Result.andThen];rw [Oper.upon_value]
 go_wp2
 go_end0
 exact ⟨rfl,rfl⟩
theorem wT (b:Nat) (w:World) (h0:w.cell? ⟨b,0,none⟩=some (.pointer (some ⟨b,0,none⟩))) :
  Calls Tryz.prog 127 #[.pointer (some ⟨b,0,none⟩)] w fun e w'=>e = .returned (.tuple #[])∧w'=w:=by
 obtain ⟨j,hj,_⟩:=UQ.1 Gv
 go_enter Tryz.func127,Tryz.ntmps127
 go_wp2
 rw [Lib.run_neq_ptr_same w _ Sw hj]
 go_wp2
 go_end0
 exact ⟨rfl,rfl⟩
abbrev OX (B b:Nat) (bs:List Value) (w:World):Prop:=Lib.IsBuilderF 136 5 B b bs w
theorem uu (B b:Nat) (bs:List Value) (w:World) (h:OX B b bs w) :
  Calls Tryz.prog 127 #[.pointer (some ⟨b,0,none⟩)] w fun e w'=>e = .returned (.tuple #[])∧Lib.BuilderAtF 136 5 B b (.pointer (some ⟨b,0,none⟩)) bs w'∧Below B w w':=by
 rcases h with h|h
 ·refine (uv b w h.cell0 h.shape h.frozen0).mono ?_;rintro e w' ⟨rfl,rfl⟩;exact ⟨rfl,h.used _,(Below.refl B w).setCell (p:=⟨b,0,none⟩) h.1 _⟩
 ·refine (wT b w h.cell0).mono ?_;rintro e w' ⟨rfl,rfl⟩;exact ⟨rfl,h,Below.refl B _⟩
theorem Oe:Tryz.prog.underlying 122=some (.slice 5):=by kernel_rfl
theorem Qu:Tryz.prog.underlying 9=some .string:=by kernel_rfl
theorem B7 (B b:Nat) (bs:List Value) (s:ByteArray) (w:World) (h:OX B b bs w) (hlen:bs.length+s.size<=140737488355328) (hBw:B<=w.heap.size) :
  Calls Tryz.prog 89 #[.pointer (some ⟨b,0,none⟩), .string s] w fun e w'=>e = .returned (.tuple #[.int .i64 s.size, .nilIface])∧OX B b (bs++Lib.strCells s) w'∧Below B w w':=by
 obtain ⟨i0,hi,hz0,hz1,hz2⟩:=info_parts Mg
 go_enter Tryz.func89,Tryz.ntmps89
 go_wp2_with fail
 refine (uu B b bs _ h).mono ?_;rintro e w1 ⟨rfl,h1,hb1⟩;obtain ⟨hB,v,hbk,hown,hne⟩:=h1;have hlt:b<w1.heap.size:=(Array.getElem?_eq_some_iff.1 hbk).1
 have c0:w1.cell? ⟨b,0,none⟩=some (.pointer (some ⟨b,0,none⟩)):=by rw [Lib.cell_of_heap hbk];rfl
 have c1:w1.cell? ⟨b,1,none⟩=some v:=by rw [Lib.cell_of_heap hbk];rfl
 go_wp2_with (at_builtin;refine Lib.wpList_append_own_stringF _ rfl _ _ 122 9 rfl B 5 i0 Oe Qu hi hz0 hz1 hz2 _ _ _ rfl hown s rfl ?c3 ?c4 ?c5 ?_)
 case c3=>unfold maxLen;omega
 case c4=>omega
 case c5=>have:=hb1.size;omega
 intro v' w2 hown' hgrow _;have hb2:w2.heap[b]? = some (.cells #[.pointer (some ⟨b,0,none⟩),v] 136 (0,0)):=(hgrow.block b hlt (fun e=>hne e.symm)).trans hbk
 have d0:w2.cell? ⟨b,0,none⟩=some (.pointer (some ⟨b,0,none⟩)):=by rw [Lib.cell_of_heap hb2];rfl
 have d1:w2.cell? ⟨b,1,none⟩=some v:=by rw [Lib.cell_of_heap hb2];rfl
 have f1:w2.frozen? ⟨b,1,none⟩=false:=Lib.frozen_of_heap hb2 1
 obtain ⟨ao,n',cap,rfl⟩: ∃ao n' cap,v' = .slice ao n' cap:=by
  rcases hown'.2 with ⟨hv,_⟩|⟨g,cap,cur,fz,hv,_⟩<;>exact ⟨_,_,_,hv⟩
 go_wp2
 go_ret2
 refine ⟨rfl, .inr (Lib.BuilderAtF.put (T:=136) (e:=5) hB hb2 (bs':=bs++Lib.strCells s) (by simpa [Lib.strCells_length] using hown') (by decide)), ?_⟩;exact (hb1.grown hgrow (by have:=hb1.size;omega) (fun k hk=>(hown.lt k hk).1)).setCell (p:=⟨b,1,none⟩) hB _
def O7 (n:Nat) (cs:List Value):Prop:=cs=[.int .i64 (n:Nat)]
abbrev F6 (w:World) (l:List Nat) (v:Value):Prop:=fP w 1 O7 l v
theorem Ff {w:World} {xs:List Nat} {p:Option Addr} {n cap:Nat} (h:F6 w xs (.slice p n cap)) {k:Nat} (hk:k<xs.length) :
  ∃b o,p=some ⟨b,o,none⟩∧w.cell? ⟨b,o+k,none⟩=some (.int .i64 (xs[k]:Nat)):=by
 obtain ⟨b,o,cs,hp,hr,hc⟩:=fP.at h hk;subst hr;rw [Nat.mul_one] at hc;replace hc:=jG hc;exact ⟨b,o,hp,by simpa using hc 0 _ rfl⟩
theorem EH (l:List Nat) (n:Nat):kO (l++[n])=kO l++(Lib.decDigits n++[32]):=by simp [kO]
theorem Hq (l:List Nat) (hs: ∀n∈l,n<1000):(kO l).length<=4 * l.length:=by
 induction l with
 | nil=>simp [kO]
 | cons a l ih=>
  have h1:=r9 a (hs a Va);have h2:=ih (fun n hn=>hs n (U8 _ hn));simp only [kO,List.flatMap_cons,Ug,List.length_cons,List.length_nil] at *;omega
theorem KS (l:List Nat) (hs: ∀n∈l,n<100) (hl:l.length<=1000000) (v:Value) (w:World) (h1:F6 w l v):Calls Tryz.prog 58 #[v] w (FJ w (.string (fW l))):=by
 obtain ⟨p,c,rfl,hc1,hc2⟩:=h1.shape;unfold maxLen at hc2;have H1:=Lib.hid h1;have HS:=Lib.hid hs;clear h1 hs
 go_enter Tryz.func58,Tryz.ntmps58
 go_wp2_with fail
 go_loopw [8] (fun i wr=> ∃k:Nat,k<=l.length∧i = .int .i64 k∧Below w.heap.size w wr∧OX w.heap.size w.heap.size (Lib.byteCells (kO (l.take k))) wr) (fun i _=>l.length - (intOf i).toNat)
 case atStart=>exact ⟨0,Nat.zero_le _,rfl,(Below.refl _ w).alloc (Nat.le_refl _) _,by rw [List.take_zero];exact Lib.IsBuilderF.of (Lib.fresh_isBuilder 136 5 w)⟩
 case round=>
  obtain ⟨k,hk,rfl,hb,hI⟩:=hrel;have HB:=Lib.hid hb;have HI:=Lib.hid hI;clear hb hI
  by_cases hlt:k<l.length
  ·obtain ⟨b1,o1,rfl,a0⟩:=Ff (fP.below H1.out HB.out) hlt;have CI:=Lib.hid (Any.strconv_Itoa_small vi l[k] (HS.out _ (Vx hlt)) wr)
   have hk1:(kO (l.take k)).length<=4 * k:=by
    have:=Hq (l.take k) (fun n hn=>by have:=HS.out n (List.mem_of_mem_take hn);omega)
    have h2:(l.take k).length<=k:=List.length_take_le _ _;omega
   have hk2:=r9 l[k] (by have:=HS.out _ (Vx hlt);omega)
   have CW:=Lib.hid (B7 w.heap.size w.heap.size (Lib.byteCells (kO (l.take k))) (⟨(Lib.decDigits l[k]).toArray⟩++⟨#[32]⟩) wr HI.out (by
    rw [Lib.byteCells_length]
    have:(⟨(Lib.decDigits l[k]).toArray⟩++⟨#[32]⟩:ByteArray).size=(Lib.decDigits l[k]).length+1:=by simp [ByteArray.size]
    omega) HB.out.size)
   go_wp2_with fail
   refine CI.out.mono ?_;rintro e w1 ⟨rfl,rfl⟩
   go_wp2_with fail
   refine CW.out.mono ?_;rintro e w2 ⟨rfl,hI2,hb2⟩
   go_wp2_with fail
   go_roundw
   case rel=>
    refine ⟨k+1,by omega,by go_num,HB.out.trans hb2, ?_⟩
    have e1:Lib.byteCells (kO (l.take (k+1)))=Lib.byteCells (kO (l.take k))++Lib.strCells (⟨(Lib.decDigits l[k]).toArray⟩++⟨#[32]⟩):=by
     rw [List.take_succ_eq_append_getElem hlt,EH,Lib.byteCells_append,Lib.strCells_eq];simp
    rw [e1];exact hI2
   case measure=>simp [intOf];omega
  ·have hkl:k=l.length:=by omega
   subst hkl
   have hI3:OX w.heap.size w.heap.size (Lib.byteCells (kO l)) wr:=by have:=HI.out;rwa [List.take_length] at this
   have CT:=Lib.hid (Any.Builder_String_any_k Kq M4 w.heap.size w.heap.size (kO l) wr hI3 HB.out.size)
   go_wp2_with fail
   refine CT.out.mono ?_;rintro e w1 ⟨rfl,_,hb2,_⟩
   go_wp2_with fail
   go_ret
   exact ⟨rfl,HB.out.trans hb2⟩
theorem Mo (l:List Nat) (hs: ∀n∈l,n<100) (hl:l.length<=1000000):ar Tryz.prog 58 [.aC 1 (aI l) l.length] (.v (.string (fW l))):=
 .Im (by kernel_rfl) (by simp only [aX,AV.wf,gj,Bool.and_self]) (fun D nu w vargs hra=>by
  obtain ⟨x,rfl,hx⟩:=kX hra
  exact KS l hs hl x w (RA.P2 hx (fun x _ cs hc=>IT (vs:=[.int .i64 (x:Nat)]) hc)))
theorem Ho (n:Nat) (h:n<1000000):ar Tryz.prog 90 [.v (.int .i64 (n:Nat))] (.v (.string ⟨(Lib.decDigits n).toArray⟩)):=by
 refine ⟨⟨rfl,rfl⟩,by kernel_rfl,fun D nu w vargs hro hra=> ?_⟩;obtain ⟨x,rfl,hx⟩:=kX hra;obtain rfl:=hx.cO;obtain ⟨⟨t,hb⟩,_⟩:=hro.gl 1 _ _ rfl
 have htab:Lib.TabIs Tryz.prog w "internal/strconv.uint64pow10" .u64 Lib.pow10Tab:=by
  have hg:Tryz.prog.globalNamed "internal/strconv.uint64pow10" = some 1:=by kernel_rfl
  simp only [Lib.TabIs,World.var?,hg,Option.bind_some,hb]
  rfl
 refine (Any.strconv_Itoa Hn n (by omega) (by omega) w htab).mono ?_;rintro e w' ⟨rfl,k,os,rfl⟩
 have e1:Lib.itoa (n:Int)=Lib.decDigits n:=by rw [Lib.itoa,if_neg (by omega)];rfl
 rw [e1];have hbw:Below w.heap.size w (Go.Sort.grow (w.drewN k) os):=Go.Lib.below_grow _ w (Nat.le_refl _) k os;exact ⟨_,nu,[],_,rfl,aw hbw,hro.below hbw, .v _,rfl,rfl⟩
end Go.Proofs.YtfflpdekojlnmaaGreatDoor
