/- texts of one claim, one behind the other. -/
import Derived.Test.YtfflpdekojlnmaaGreatDoorWOpenX
import Derived.Test.YtfflpdekojlnmaaGreatDoorWDfaH
import Derived.Shelf.SlMaps.Equal
import Derived.Test.YtfflpdekojlnmaaGreatDoorWDfaA
import Derived.Test.YtfflpdekojlnmaaGreatDoorWDrawL
import Derived.Test.YtfflpdekojlnmaaGreatDoorWLang
import Derived.Test.YtfflpdekojlnmaaGreatDoorWAbsV
set_option linter.unusedSimpArgs false
set_option linter.unusedVariables false
set_option maxRecDepth 100000
set_option maxHeartbeats 16000000
open Bool renaming and_eq_true -> Vj, and_self -> WA, true_and -> VO, and_true -> VZ, eq_iff_iff -> WL
open List renaming getElem?_eq_getElem -> UM, getElem?_map -> UP, getElem_map -> Wp, pairwise_map -> WC, all_eq_true -> VH, length_map -> Vp, mem_map -> Xc, mem_map_of_mem -> Xg, getD_eq_getElem?_getD -> Vq, mem_cons -> VR, mem_cons_of_mem -> Vv, map_cons -> Wy, findIdx?_cons -> Xh, map_append -> Wv, foldl_append -> Ws, map_nil -> WI, foldl_cons -> V7, foldl_nil -> V8, mem_append -> Wr, mem_singleton -> Wq, mem_append_left -> Wn, getElem_mem -> VU, getElem?_eq_none -> UR, take_length -> Xi, take_succ_eq_append_getElem -> WG, length_cons -> UD, cons_append -> WE, length_nil -> Ux, replicate_succ -> Wc, replicate_zero -> Wd, nil_append -> Wt, drop_eq_getElem_cons -> VB
open Nat renaming zero_le -> UE, lt_add_one -> WX, zero_lt_one -> WY
namespace Go.Proofs.YtfflpdekojlnmaaGreatDoor
open Go.RowKit
section
open Go.RowKit Go.Shelf
def EL:Go.Shelf.Ren:=⟨fun|6=>43|n=>n,fun|23=>84|24=>84|26=>9|27=>3|4=>4|3=>3|0=>0|36=>57|n=>n,fun|n=>n⟩
theorem Bs:SlLaysEq.n6 Tryz.prog EL:={
 mixed:=by kernel_rfl
 f6:=⟨Tryz.f43.name,by decide,Tryz.func43⟩
 t0:=by kernel_rfl
 a0:=fun w=>by kernel_rfl
 z0:=fun w=>by kernel_rfl
 v0:=fun w=>by kernel_rfl
 t3:=by kernel_rfl
 a3:=fun w=>by kernel_rfl
 z3:=fun w=>by kernel_rfl
 v3:=fun w=>by kernel_rfl
 t4:=by kernel_rfl
 a4:=fun w=>by kernel_rfl
 z4:=fun w=>by kernel_rfl
 v4:=fun w=>by kernel_rfl
 t23:=by kernel_rfl
 a23:=fun w=>by kernel_rfl
 z23:=fun w=>by kernel_rfl
 v23:=fun w=>by kernel_rfl
 t24:=by kernel_rfl
 a24:=fun w=>by kernel_rfl
 z24:=fun w=>by kernel_rfl
 v24:=fun w=>by kernel_rfl
 a26:=fun w=>by kernel_rfl
 z26:=fun w=>by kernel_rfl
 a27:=fun w=>by kernel_rfl
 z27:=fun w=>by kernel_rfl
 t36:=by kernel_rfl
 a36:=fun w=>by kernel_rfl
 z36:=fun w=>by kernel_rfl }
section
open Go.Maps Go.Sort Go.WideElems
theorem JM:Tryz.prog.underlying 3=some (.int .i64):=by kernel_rfl
theorem Sb:Keyed Tryz.prog 9:=string_keyed JN
def tQ {H:Type}:DataW H->DataW H->Bool
 | .lit (.int _ x), .lit (.int _ y)=>x==y
 | _,_=>false
theorem IG {H:Type} {P:Program} {e:TypeId} (he:P.underlying e=some (.int .i64)) (W:World) (x y:Value) (xd yd:DataW H) (xp yp:List MemPlace) (hx:plainElem P e x=some (xd,xp)) (hy:plainElem P e y=some (yd,yp)) :
  (binOp .neq e x y).run P W = .ok (.bool (!tQ xd yd)) W∧ ∀(a b:Operand),(eqGuard .neq e a b x y).run P W = .ok () W:=by
 obtain ⟨a,rfl,h1,_⟩:=plainElem_int_inv he hx;obtain ⟨b,rfl,h2,_⟩:=plainElem_int_inv he hy
 obtain rfl:xd = .lit (.int .i64 a):=by simpa using (congrArg Prod.fst h1)
 obtain rfl:yd = .lit (.int .i64 b):=by simpa using (congrArg Prod.fst h2)
 refine ⟨?_,fun _ _=>by rw [eqGuard_at_int];rfl⟩;simp [go_sem,tQ,binOp]
 rfl
def sl (r:aU):List (Lit×DataW Unit):=r.map (fun p=>(.string p.1.data.toList, .lit (.int .i64 (p.2:Nat))))
theorem Om {e:MapEntry} {s:ByteArray} {n:Nat} (hk:e.key = .string s) (hv:e.val = .int .i64 (n:Nat)) (hs:s.size<=maxLen) (hn:n<1000000):rd Tryz.prog 9 (plainElem (H:=Unit) Tryz.prog 3) e=some (.string s.data.toList, .lit (.int .i64 (n:Nat))):=by
 unfold WideElems.rd;rw [hk,Go.WideMaps.keyOf_string_mk JN hs,hv,plainElem_int JM (by simp only [Lit.wf,Vj,decide_eq_true_eq];exact ⟨by show (-9223372036854775808:Int)<=_;omega,by show _<=(9223372036854775807:Int);omega⟩)];rfl
theorem zE {D:Nat->Prop} {nu:Nat->Nat->Value} {o:List (Option aa)} {w:World} {r:aU} {x:Value} (h:RA D nu o w (.mp (bY r)) x) (hs: ∀p∈r,p.1.size<=maxLen∧p.2<1000000) (hn:(r.map Prod.fst).Nodup) (hl:r.length<=1000000) :
  ∃b E,x = .map (some b)∧w.ownsMap Tryz.prog 9 (plainElem Tryz.prog 3) b r.length (.map E)∧E.Perm (sl r):=by
 cases h with
 | mp _ b es cl h1 h2 h3 h4 h5 h6 h7=>
 have hlen:es.size=r.length:=by rw [h3,zC]
 have hget: ∀(i:Nat) (hi:i<es.toList.length),es[i]? = some es.toList[i]:=fun i hi=>by rw [<-Array.getElem?_toList];exact UM hi
 have hrow: ∀(i:Nat) (hi':i<r.length),(bY r)[i]? = some [.v (.string r[i].1), .v (.int .i64 (r[i].2:Nat))]:=fun i hi'=>by rw [bY,UP,UM hi'];rfl
 have hk: ∀(i:Nat) (hi:i<es.toList.length) (hi':i<r.length),(es.toList[i]).key=Value.string r[i].1:=fun i hi hi'=>(h7 i 0 _ _ _ (hrow i hi') rfl (hget i hi)).plain;have hv: ∀(i:Nat) (hi:i<es.toList.length) (hi':i<r.length),(es.toList[i]).val=Value.int .i64 (r[i].2:Nat):=fun i hi hi'=>(h7 i 1 _ _ _ (hrow i hi') rfl (hget i hi)).plain
 have hkeys:es.toList.map (fun e=>e.key)=r.map (fun p=>Value.string p.1):=List.ext_getElem (by simp [hlen]) fun i k1 k2=>by
  rw [Wp,Wp];exact hk i (by simpa using k1) (by simpa using k2)
 have hrd: ∀(i:Nat) (hi:i<es.toList.length) (hi':i<r.length),rd Tryz.prog 9 (plainElem (H:=Unit) Tryz.prog 3) es.toList[i]=some (.string r[i].1.data.toList, .lit (.int .i64 (r[i].2:Nat))):=fun i hi hi'=>Om (hk i hi hi') (hv i hi hi') (hs _ (List.getElem_mem hi')).1 (hs _ (List.getElem_mem hi')).2
 refine ⟨b,_,rfl,⟨es,cl,h2,⟨by unfold maxLen;omega,⟨?_, ?_, ?_⟩, ?_⟩,by omega,rfl⟩, ?_⟩
 ·intro e he;obtain ⟨i,hi,rfl⟩:=List.getElem_of_mem he;exact h5 i _ (hget i hi)
 ·rw [List.Nodup,List.pairwise_iff_getElem];intro i j hi hj hij;rw [Wp,Wp]
  have:=h6 i j _ _ (hget i (by simpa using hi)) (hget j (by simpa using hj)) hij
  omega
 ·have e:es.toList.map (fun x=>x.key)=(r.map Prod.fst).map Value.string:=by rw [hkeys,List.map_map];rfl
  rw [e,List.Nodup,WC];exact hn.imp fun hne e=>hne (by cases e;rfl)
 ·intro e he;obtain ⟨i,hi,rfl⟩:=List.getElem_of_mem he;exact ⟨_,hrd i hi (by simpa [hlen] using hi)⟩
 ·refine (WideShapes.sorted_perm _).trans (List.Perm.of_eq ?_);refine List.ext_getElem (by simp [sl,hlen]) fun i k1 k2=> ?_
  have hi:i<es.toList.length:=by simpa using k1
  simp only [sl,Wp];rw [rg_of (hrd i hi (by simpa [hlen] using hi))]
def tO (r s:aU):Bool:=decide (r.length=s.length)&&r.all (fun p=>look s p.1==some p.2)
theorem Ny {r:aU} (hn:(r.map Prod.fst).Nodup) {E:List (Lit×DataW Unit)} (h:E.Perm (sl r)):E.Pairwise (fun p q=>p.1≠q.1):=by
 refine (h.pairwise_iff (fun {a b} (q:a.1≠b.1)=>Ne.symm q)).2 ?_;rw [sl,WC];rw [List.Nodup,WC] at hn;refine hn.imp fun {a b} hne e=>hne ?_
 injection e with e
 exact ByteArray.ext (Array.toList_inj.1 e)
theorem KW {r s:aU} (h1:(r.map Prod.fst).Nodup) (h2:(s.map Prod.fst).Nodup) {E1 E2:List (Lit×DataW Unit)} (p1:E1.Perm (sl r)) (p2:E2.Perm (sl s)):Lib.equalFuncD tQ (.map E1) (.map E2)=tO r s:=by
 have hap:=Ny h2 p2;rw [Lib.equalFuncD,tO,Bool.eq_iff_iff,Vj,Vj,decide_eq_true_eq,decide_eq_true_eq,VH,VH]
 have e1:Maps.size (DataW.map E1)=r.length:=by show E1.length=_;rw [p1.length_eq,sl,Vp]
 have e2:Maps.size (DataW.map E2)=s.length:=by show E2.length=_;rw [p2.length_eq,sl,Vp]
 rw [e1,e2]
 have key: ∀p∈r,(Lib.goodD tQ (.map E2) (.string p.1.data.toList, .lit (.int .i64 (p.2:Nat)))=true↔look s p.1=some p.2):=fun p hp=>by
  have hs:Maps.has (DataW.map E2) (.string p.1.data.toList)=true↔p.1∈s.map Prod.fst:=by
   rw [Maps.has,List.any_eq_true]
   constructor
   ·rintro ⟨q,hq,hk⟩;have hq':=(p2.mem_iff).1 hq;rw [sl,Xc] at hq';obtain ⟨t,ht,rfl⟩:=hq'
    have:=WideAt.sameKey_eq hk
    injection this with this
    have e:t.1=p.1:=ByteArray.ext (Array.toList_inj.1 this);exact e ▸ Xg ht
   ·intro hm;obtain ⟨t,ht,e⟩:=Xc.1 hm;refine ⟨(.string t.1.data.toList, .lit (.int .i64 (t.2:Nat))),(p2.mem_iff).2 (Xg ht), ?_⟩;rw [e];exact WideAt.sameKey_self trivial
  rw [Lib.goodD,Vj,hs]
  constructor
  ·rintro ⟨hm,he⟩;obtain ⟨t,ht,e⟩:=Xc.1 hm;have hat:(DataW.map E2).atKey (.string p.1.data.toList) .nil = .lit (.int .i64 (t.2:Nat)):=WideAt.atKey_mem .nil trivial hap ((p2.mem_iff).2 (by rw [<-e];exact Xg (f:=fun p=>(Lit.string p.1.data.toList,DataW.lit (Lit.int .i64 (p.2:Nat)))) ht));rw [hat] at he
   have:(p.2:Int)=t.2:=by simpa [tQ] using he
   have e2:t.2=p.2:=by omega
   rw [<-e2, <- e];exact ru h2 ht
  ·intro hk;have hm:=jw hk;refine ⟨Xg (f:=Prod.fst) hm, ?_⟩;have hat:(DataW.map E2).atKey (.string p.1.data.toList) .nil = .lit (.int .i64 (p.2:Nat)):=WideAt.atKey_mem .nil trivial hap ((p2.mem_iff).2 (Xg (f:=fun p=>(Lit.string p.1.data.toList,DataW.lit (Lit.int .i64 (p.2:Nat)))) hm));rw [hat];simp [tQ]
 constructor
 ·rintro ⟨h,k⟩;refine ⟨h,fun p hp=> ?_⟩;rw [beq_iff_eq];exact (key p hp).1 (k _ ((p1.mem_iff).2 (Xg (f:=fun p=>(Lit.string p.1.data.toList,DataW.lit (Lit.int .i64 (p.2:Nat)))) hp)))
 ·rintro ⟨h,k⟩;refine ⟨h,fun q hq=> ?_⟩;have hq':=(p1.mem_iff).1 hq;rw [sl,Xc] at hq';obtain ⟨p,hp,rfl⟩:=hq';exact (key p hp).2 (by simpa using k p hp)
theorem KX (r s:aU) (hr: ∀p∈r,p.1.size<=maxLen∧p.2<1000000) (hs: ∀p∈s,p.1.size<=maxLen∧p.2<1000000) (nr:(r.map Prod.fst).Nodup) (ns:(s.map Prod.fst).Nodup) (lr:r.length<=1000000) (ls:s.length<=1000000) :
  ar Tryz.prog 43 [.mp (bY r), .mp (bY s)] (.v (.bool (tO r s))):=by
 refine ⟨⟨by simp only [aV,AV.wf,pG,WA],rfl⟩,by kernel_rfl,fun D nu w vargs hro hra=> ?_⟩;obtain ⟨x,y,rfl,hx,hy⟩:=xQ hra;obtain ⟨b1,E1,rfl,o1,p1⟩:=zE hx hr nr lr;obtain ⟨b2,E2,rfl,o2,p2⟩:=zE hy hs ns ls;refine (AnyEq.maps_Equal Bs Sb (plainElem Tryz.prog 3) (plainElem Tryz.prog 3) tQ b1 b2 r.length s.length (.map E1) (.map E2) w o1 o2 (.int .i64 0) (fun w=>by kernel_rfl) (.lit (.int .i64 0)) [] (plainElem_int JM (by decide)) (IG JM)).mono ?_;rintro e w' ⟨rfl,hg⟩;rw [KW nr ns p1 p2];have hbw:Below w.heap.size w w':=⟨hg.os,hg.tape,hg.output,hg.size,fun k hk=>hg.block k hk (by simp)⟩;exact ⟨_,nu,[],_,rfl,au hbw,hro.below hbw, .v _,rfl,rfl⟩
end
structure Nf (A:pJ):Prop extends AOk A where
 nd:A.labs.Nodup
 sz: ∀l∈A.labs,l.size<=20
 PZ:A.labs.length<=24
theorem Nf.Ti {A:pJ} (h:Nf A) {r:aU} (hr:r∈A.rows):(∀p∈r,p.1.size<=maxLen∧p.2<1000000)∧(r.map Prod.fst).Nodup∧r.length<=1000000:=by
 obtain ⟨h1,h2⟩:=h.row r hr
 refine ⟨fun p hp=>⟨?_, ?_⟩,h1.nodup h.nd, ?_⟩
 ·have:=h.sz _ (h1.subset (Xg hp));unfold maxLen;omega
 ·have:=h2 p hp;have:=h.max;omega
 ·have:=h1.length_le;have:=h.PZ;rw [Vp] at *; omega
def sameAt (A B:pJ) (s:Nat):Bool:=(A.ends.getD s false==B.ends.getD s false)&&tO (A.rows.getD s []) (B.rows.getD s [])
def vW (A B:pJ):Bool:=decide (A.rows.length=B.rows.length)&&(List.range A.rows.length).all (sameAt A B)
theorem Da {A B:pJ} (ha:Nf A) (hb:Nf B):ar Tryz.prog 14 [.vp (de A), .vp (de B)] (.v (.bool (vW A B))):=by
 have CA:=nN A;have CB:=nN B;have ea:=ha.ends;have am:=ha.max;have eb:=hb.ends
 have CQ: ∀s,s<A.rows.length->s<B.rows.length->ar Tryz.prog 43 [.mp (bY (A.rows.getD s [])), .mp (bY (B.rows.getD s []))] (.v (.bool (tO (A.rows.getD s []) (B.rows.getD s [])))):=fun s h1 h2=>by
  obtain ⟨q1,q2,q3⟩:=ha.Ti (aZ (d:=[]) h1);obtain ⟨k1,k2,k3⟩:=hb.Ti (aZ (d:=[]) h2);exact KX _ _ q1 k1 q2 k2 q3 k3
 have gE: ∀(l:List Bool) (s:Nat),s<l.length->(l.map (fun b=>[AV.v (.bool b)])).getD s []=[.v (.bool (l.getD s false))]:=fun l s h=>by
  rw [Vq,UP,UM h,Vq,UM h];rfl
 have gR: ∀(l:List aU) (s:Nat),s<l.length->(l.map (fun r=>[AV.mp (bY r)])).getD s []=[.mp (bY (l.getD s []))]:=fun l s h=>by
  rw [Vq,UP,UM h,Vq,UM h];rfl
 simp only [de,gV,ba,List.cons_append,List.nil_append,ea,eb] at CA CB ⊢;generalize hrv:vW A B=rv
 (refine ar.enter Tryz.func14 rfl (by kernel_rfl) (by kernel_rfl) rfl (by first|rfl|(simp only [go_sem,WA,Bool.and_true,VO])) (by first|rfl|(simp only [go_sem,WA,Bool.and_true,VO])) ?_;simp only [Tryz.ntmps14,Tryz.results14,List.length_cons,List.length_nil,Nat.reduceAdd,Nat.reduceSub,List.replicate_succ,List.replicate_zero,List.cons_append,List.nil_append])
 (refine ez ?_;intro K hK K hK K hK)
 refine ab.one CA ?_
 ((iterate 3 revert K);refine ez ?_;intro K hK K hK K hK)
 refine ab.one CB ?_
 ((iterate 3 revert K);refine ez ?_;intro K hK)
 refine bH.part (fun h=> ?_) (fun h=> ?_)
 ·have hne:A.rows.length≠B.rows.length:=by replace h:=bI h;omega
  have hf:rv=false:=by rw [<-hrv,vW,decide_eq_false hne];rfl
  (revert K;refine ez ?_)
  rw [hf]
 ·have heq:A.rows.length=B.rows.length:=by replace h:=bI h;omega
  have hf:(List.range A.rows.length).all (sameAt A B)=rv:=by rw [<-hrv,vW,decide_eq_true heq];rfl
  (revert K;refine ez ?_;intro K hK K hK K hK)
  refine ab.one CA ?_
  ((iterate 3 revert K);refine ez ?_;intro K hK)
  refine bz (ι:=Nat) 14 (fun s=>[(5, .undef),(13, .v (.int .i64 s))]) (fun s=>A.rows.length - s) (fun s=>s<=A.rows.length∧ ∀t,t<s->sameAt A B t=true) 0 ⟨Nat.zero_le _,fun t h=>absurd h (Nat.not_lt_zero t)⟩ ?_ ?_
  ·refine bo ?_ aj
   all_goals rfl
  ·rintro s ⟨hs,hd⟩ K hK
   (revert K;revert K;refine ez ?_;intro K hK K hK K hK)
   refine bH.part (fun h2=> ?_) (fun h2=> ?_)
   ·have hlt:s<A.rows.length:=by replace h2:=bI h2;omega
    have eW:=ak (k:=s) (by omega);have g1:=gE A.ends s (by omega);have g2:=gE B.ends s (by omega);have g3:=gR A.rows s hlt;have g4:=gR B.rows s (by omega);have C:=CQ s hlt (by omega);have hsm:sameAt A B s=((A.ends.getD s false==B.ends.getD s false)&&tO (A.rows.getD s []) (B.rows.getD s [])):=rfl;generalize A.ends.getD s false=e1 at *;generalize B.ends.getD s false=e2 at *
    have hin:sameAt A B s=false->rv=false:=fun hx=>by
     rw [<-hf, <- Bool.not_eq_true,VH];intro hall
     have:=hall s (List.mem_range.2 hlt)
     rw [hx] at this;cases this
    repeat (first|(with_reducible first|refine aA.up ?_|refine fun (K:AK) hK=> ?_|refine wD ?_|(refine hK _ ?_;clear hK K))|simp only [go_sem,g1,g2,g3,g4,h2]|with_reducible refine wA ?_|clear hK K)
    refine bH.part (fun h3=> ?_) (fun h3=> ?_)
    ·rw [h3,VO] at hsm;generalize tO (A.rows.getD s []) (B.rows.getD s [])=e3 at *
     repeat (first|(with_reducible first|refine aA.up ?_|refine fun (K:AK) hK=> ?_|refine wD ?_|(refine hK _ ?_;clear hK K))|simp only [go_sem,g1,g2,g3,g4,h3]|with_reducible refine wA ?_|clear hK K)
     refine bj.one C ?_
     ((iterate 5 revert K);refine MH g1 g2 g3 g4 h3 ?_;intro K hK K hK K hK)
     refine bH.part (fun h4=> ?_) (fun h4=> ?_)
     ·rw [h4] at hsm
      ((iterate 3 revert K);refine ve eW ?_)
      refine az.mk (s+1) ⟨hlt,fun t ht=> ?_⟩ (by omega) (by exact aR aj)
      rcases Nat.lt_succ_iff_lt_or_eq.1 ht with q|rfl
      ·exact hd t q
      ·exact hsm
     ·rw [h4] at hsm
      ((iterate 3 revert K);refine ez ?_)
      rw [hin hsm]
    ·rw [h3,Bool.false_and] at hsm
     ((iterate 5 revert K);refine MH g1 g2 g3 g4 h3 ?_)
     rw [hin hsm]
   ·have hs':s=A.rows.length:=by replace h2:=bI h2;omega
    have hf2:rv=true:=by
     rw [<-hf,VH];intro t ht;exact hd t (by rw [List.mem_range] at ht;omega)
    ((iterate 3 revert K);refine ez ?_)
    rw [hf2]
theorem kH: ∀ {l m:List ByteArray},iN l->iN m->(∀s,s∈l↔s∈m)->l=m
 | [],[],_,_,_=>rfl
 | [],b :: m,_,_,h=>absurd ((h b).2 (by simp)) (by simp)
 | a :: l,[],_,_,h=>absurd ((h a).1 (by simp)) (by simp)
 | a :: l,b :: m,h1,h2,h=>by
  rw [iN,List.pairwise_cons] at h1 h2;have irr: ∀x:List UInt8, ¬x<x:=fun x=>List.lt_irrefl _
  have hab:a=b:=by
   rcases VR.1 ((h a).1 (by simp)) with e|ha
   ·exact e
   ·rcases VR.1 ((h b).2 (by simp)) with e|hb
    ·exact e.symm
    ·exact absurd (List.lt_trans (h1.1 b hb) (h2.1 a ha)) (irr _)
  subst hab
  refine congrArg _ (kH h1.2 h2.2 fun s=>⟨fun hs=> ?_,fun hs=> ?_⟩)
  ·rcases VR.1 ((h s).1 (Vv _ hs)) with e|q
   ·subst e;exact absurd (h1.1 _ hs) (irr _)
   ·exact q
  ·rcases VR.1 ((h s).2 (Vv _ hs)) with e|q
   ·subst e;exact absurd (h2.1 _ hs) (irr _)
   ·exact q
theorem xw {x:Ex} {l:List ByteArray} (h:iN l) (hm: ∀s,s∈aB x↔s∈l):bT x=l:=kH (mS x) h fun s=>kC.trans (hm s)
def ta:ByteArray:=⟨#[97]⟩
def tb:ByteArray:=⟨#[98]⟩
def J3 (s:ByteArray):Ex:= .mk 1 s []
def J0:Ex:= .mk 4 ⟨#[]⟩ [.mk 2 ⟨#[]⟩ [J3 ta,J3 tb]]
def J1:Ex:= .mk 3 ⟨#[]⟩ [J3 ta, .mk 2 ⟨#[]⟩ [J3 ta, .mk 4 ⟨#[]⟩ [J3 ta]]]
def J2:Ex:= .mk 5 ⟨#[]⟩ [J3 ta]
def AF:pJ:=⟨[[(ta,1)],[(tb,0)]],[true,false],[ta,tb]⟩
def Nu:pJ:=⟨[[(ta,1)],[(ta,1)]],[false,true],[ta]⟩
theorem Qg:bT J0=[ta,tb]:=xw (by simp [iN,ta,tb];decide) (fun s=>by rw [show aB J0=[ta,tb] by kernel_rfl])
theorem Qh:bT J1=[ta]:=xw (by simp [iN]) (fun s=>by rw [show aB J1=[ta,ta,ta] by kernel_rfl];simp)
theorem Qi:bT J2=[ta]:=xw (by simp [iN]) (fun s=>by rw [show aB J2=[ta] by kernel_rfl])
theorem PL:jq J0 (bT J0) = .inl AF:=by rw [Qg];kernel_rfl
theorem PM:jq J1 (bT J1) = .inl Nu:=by rw [Qh];kernel_rfl
theorem R3:jq J2 (bT J2) = .inl Nu:=by rw [Qi];kernel_rfl
theorem Ig {part:List Nat}: ∀ {r s:aU},r.map Prod.fst=s.map Prod.fst->qn part r=qn part s->r.flatMap (fun e=>32 :: (e.1.data.toList++32 :: Lib.decDigits (part.getD e.2 0)))=s.flatMap (fun e=>32 :: (e.1.data.toList++32 :: Lib.decDigits (part.getD e.2 0)))
 | [],[],_,_=>rfl
 | [],b :: s,h,_=>by simp at h
 | a :: r,[],h,_=>by simp at h
 | a :: r,b :: s,h,k=>by
  simp only [List.map_cons,List.cons.injEq,qn] at h k;rw [List.flatMap_cons,List.flatMap_cons,Ig (r:=r) (s:=s) h.2 k.2,h.1,k.1]
theorem IP {part:List Nat} {p:Nat} {r s:aU} (h:r.map Prod.fst=s.map Prod.fst) (k:qn part r=qn part s):bU part p r=bU part p s:=by
 rw [bU,bU,tB,tB,Ig h k]
def TQ (rows:List aU) (ends:List Bool) (part:List Nat):Prop:= ∀s t,s<rows.length->t<rows.length->part.getD s 0≠part.getD t 0-> ∃w,c6 rows ends s w≠c6 rows ends t w
end
section
section
variable {α β:Type} [DecidableEq α] [DecidableEq β]
def q9 (st:List α×List Nat) (x:α):List α×List Nat:=match st.1.findIdx? (fun y=>decide (x=y)) with
 | some k=>(st.1,st.2++[k])
 | none=>(st.1++[x],st.2++[st.1.length])
theorem y4 {γ:Type} {f:γ->α} {g:γ->β}: ∀(ds:List γ) (c:γ),(∀d∈ds,f c=f d↔g c=g d)->(ds.map f).findIdx? (fun y=>decide (f c=y))=(ds.map g).findIdx? (fun y=>decide (g c=y))
 | [],c,_=>rfl
 | d :: ds,c,h=>by
  rw [Wy,Wy,Xh,Xh,y4 ds c (fun e he=>h e (Vv _ he))]
  have:=h d List.mem_cons_self
  by_cases e:f c=f d
  ·rw [decide_eq_true e,decide_eq_true (this.1 e)]
  ·rw [decide_eq_false e,decide_eq_false (fun k=>e (this.2 k))]
theorem K0 {f:Nat->α} {g:Nat->β} {n:Nat} (h: ∀i j,i<n->j<n->(f i=f j↔g i=g j)): ∀m,m<=n-> ∃ds:List Nat,(∀d∈ds,d<n)∧((List.range m).map f).foldl q9 ([],[])=(ds.map f,(((List.range m).map g).foldl q9 ([],[])).2)∧(((List.range m).map g).foldl q9 ([],[])).1=ds.map g:=fun m=>by
 induction m with
 | zero=>intro _;exact ⟨[],by simp,rfl,rfl⟩
 | succ m ih=>
  intro hm;obtain ⟨ds,h1,h2,h3⟩:=ih (by omega);rw [List.range_succ,Wv,Wv,Ws,Ws,h2];simp only [Wy,WI,V7,V8];rw [q9,q9,h3];simp only;rw [y4 ds m (fun d hd=>h m d (by omega) (h1 d hd))]
  cases q:(ds.map g).findIdx? (fun y=>decide (g m=y)) with
  | some k=>exact ⟨ds,h1,rfl,rfl⟩
  | none=>exact ⟨ds++[m],fun d hd=>by
    rcases Wr.1 hd with hd|hd
    ·exact h1 d hd
    ·rw [Wq] at hd;omega,by simp,by simp⟩
end
def fh (labs:List ByteArray) (r:aU):List Int:=labs.map (fun l=>match look r l with
 | some t=>(t:Int)
 | none=> -1)
theorem dc (labs:List ByteArray) (r:aU):(fh labs r).length=labs.length:=by rw [fh,Vp]
theorem ug {labs:List ByteArray} {l:ByteArray} {r r2:aU} (h: ∀m∈labs,look r2 m=look r m):fh (labs++[l]) r2=fh labs r++[match look r2 l with
 | some t=>(t:Int)
 | none=> -1]:=by
 rw [fh,Wv,fh]
 congr 1
 exact List.map_congr_left fun m hm=>by rw [h m hm]
section
variable (stp:List Nat->ByteArray->List Nat)
def Rj (cur:List Nat) (st:List (List Nat)×List Int) (lab:ByteArray):List (List Nat)×List Int:=match st.1.findIdx? (fun y=>stp cur lab==y) with
 | some k=>(st.1,st.2++[(k:Int)])
 | none=>if stp cur lab=[] then (st.1,st.2++[-1]) else (st.1++[stp cur lab],st.2++[(st.1.length:Int)])
def tJ (cur:List Nat) (all:List (List Nat)) (labs:List ByteArray):List (List Nat)×List Int:=labs.foldl (Rj stp cur) (all,[])
theorem vR (cur:List Nat) (all:List (List Nat)) (labs:List ByteArray) (l:ByteArray):tJ stp cur all (labs++[l])=Rj stp cur (tJ stp cur all labs) l:=by rw [tJ,Ws];rfl
theorem LU (all:List (List Nat)) (s:List Nat):pos (all.map fZ) (fZ s)=all.findIdx? (fun y=>s==y):=by
 rw [pos]
 have: ∀l:List (List Nat),(l.map fZ).findIdx? (fun x=>cw (fZ s) x)=l.findIdx? (fun y=>s==y):=fun l=>by
  induction l with
  | nil=>rfl
  | cons a l ih=>
   rw [Wy,Xh,Xh,ih]
   by_cases e:s=a
   ·subst e;rw [iJ.2 rfl,beq_self_eq_true]
   ·have:cw (fZ s) (fZ a)=false:=by
     cases hh:cw (fZ s) (fZ a)
     ·rfl
     ·exact absurd (zl (iJ.1 hh)) e
    rw [this,beq_eq_false_iff_ne.2 e]
 exact this all
theorem FT (cur:List Nat) (all:List (List Nat)): ∀labs:List ByteArray, ∀l∈(dr stp cur all labs).2.map Prod.fst,l∈labs:=by
 refine fg (by simp [dr]) ?_;intro labs l ih;rw [jk,AI]
 split
 ·intro m hm;exact Wn _ (ih m hm)
 ·split
  all_goals
   intro m hm;rw [Wv,Wr] at hm
   rcases hm with hm|hm
   ·exact Wn _ (ih m hm)
   ·simp only [Wy,WI,Wq] at hm;rw [hm];simp
theorem DB (cur:List Nat) {all:List (List Nat)} (h0:[]∉all): ∀labs:List ByteArray,labs.Nodup->tJ stp cur all labs=((dr stp cur all labs).1,fh labs (dr stp cur all labs).2)∧[]∉(dr stp cur all labs).1:=by
 refine fg (fun _=>⟨rfl,h0⟩) ?_;intro labs l ih hn;rw [List.nodup_append] at hn;obtain ⟨e,h1⟩:=ih hn.1;have hl:look (dr stp cur all labs).2 l=none:=gK.2 fun hm=>hn.2.2 l (FT stp cur all labs l hm) l (by simp) rfl
 have hother: ∀k m,m∈labs->look ((dr stp cur all labs).2++[(l,k)]) m=look (dr stp cur all labs).2 m:=fun k m hm=>by
  have:m≠l:=fun q=>hn.2.2 m hm l (by simp) q
  rw [ik,il,if_neg this,Option.or_none]
 have hat: ∀k,look ((dr stp cur all labs).2++[(l,k)]) l=some k:=fun k=>by rw [ik,il,if_pos rfl,hl];rfl
 rw [vR,jk,e,Rj,AI,LU];simp only
 by_cases hs:stp cur l=[]
 ·have hf:(dr stp cur all labs).1.findIdx? (fun y=>stp cur l==y)=none:=by
   rw [List.findIdx?_eq_none_iff];intro y hy;rw [beq_eq_false_iff_ne,hs];rintro rfl;exact h1 hy
  simp only [hf,if_pos hs];refine ⟨?_,h1⟩;rw [ug (r:=(dr stp cur all labs).2) (fun m _=>rfl),hl]
 ·simp only [if_neg hs]
  cases hf:(dr stp cur all labs).1.findIdx? (fun y=>stp cur l==y) with
  | some k=>
   refine ⟨?_,h1⟩;simp only;rw [ug (hother k),hat]
  | none=>
   refine ⟨?_,fun hm=> ?_⟩
   ·simp only;rw [ug (hother _),hat]
   ·rcases Wr.1 hm with hm|hm
    ·exact h1 hm
    ·rw [Wq] at hm;exact hs hm.symm
end
def gM (labs:List ByteArray) (rows:List aU) (part:List Nat) (i:Nat):List Int:=(part.getD i 0:Int) :: (fh labs (rows.getD i [])).map (fun t=>if t<0 then -1 else (part.getD t.toNat 0:Int))
theorem I9 {labs:List ByteArray} {rows:List aU} {part:List Nat} (hR: ∀r∈rows,iN (r.map Prod.fst)) (hL: ∀r∈rows, ∀l∈r.map Prod.fst,l∈labs) (hn:pc rows) {s t:Nat} (hs:s<rows.length) (ht:t<rows.length) :
  bU part (part.getD s 0) (rows.getD s [])=bU part (part.getD t 0) (rows.getD t [])↔gM labs rows part s=gM labs rows part t:=by
 have val: ∀i l,l∈labs-> ∀(j:Nat),labs[j]? = some l->((fh labs (rows.getD i [])).map (fun t=>if t<0 then -1 else (part.getD t.toNat 0:Int)))[j]? = some (match look (rows.getD i []) l with
   | some t=>(part.getD t 0:Int)
   | none=> -1):=fun i l hl j hj=>by
  rw [fh,List.map_map,List.getElem?_map,hj,Option.map_some,Function.comp]
  cases look (rows.getD i []) l with
  | none=>simp
  | some t=>simp [show ¬((t:Int)<0) by omega]
 constructor
 ·intro h;obtain ⟨h1,h2,h3⟩:=vI (rz _ hn s) (rz _ hn t) h;rw [gM,gM,h1]
  congr 1
  refine List.ext_getElem? fun j=> ?_
  by_cases hj:j<labs.length
  ·have e:=UM hj;rw [val s _ (VU hj) j e,val t _ (VU hj) j e];obtain ⟨k1,k2⟩:=s9 h2 h3 labs[j]
   cases q1:look (rows.getD s []) labs[j] with
   | none=>rw [k1.1 q1]
   | some a=>
    cases q2:look (rows.getD t []) labs[j] with
    | none=>rw [k1.2 q2] at q1;cases q1
    | some b=>simp only [k2 a b q1 q2]
  ·rw [UR (by rw [Vp,dc];omega),UR (by rw [Vp,dc];omega)]
 ·intro h;rw [gM,gM,List.cons.injEq] at h;obtain ⟨h1,h2⟩:=h
  have hv: ∀l∈labs,(match look (rows.getD s []) l with|some t=>(part.getD t 0:Int)|none=> -1)=(match look (rows.getD t []) l with|some t=>(part.getD t 0:Int)|none=> -1):=fun l hl=>by
   obtain ⟨j,hj,e⟩:=List.getElem_of_mem hl;have e:=(UM hj).trans (congrArg some e)
   have:=congrArg (fun l=>l[j]?) h2
   simp only [val s l hl j e,val t l hl j e,Option.some.injEq] at this;exact this
  have hrs:=hR _ (aZ (d:=[]) hs);have hrt:=hR _ (aZ (d:=[]) ht)
  have one: ∀ {a b:Nat},a<rows.length->(∀l∈labs,(match look (rows.getD a []) l with|some t=>(part.getD t 0:Int)|none=> -1)=(match look (rows.getD b []) l with|some t=>(part.getD t 0:Int)|none=> -1))-> ∀l,l∈(rows.getD a []).map Prod.fst->l∈(rows.getD b []).map Prod.fst:=fun {a b} ha hv l hl=>by
   have hll:=hL _ (aZ (d:=[]) ha) l hl
   have:=hv l hll
   refine Classical.byContradiction fun hn=> ?_;rw [gK.2 hn] at this
   cases q:look (rows.getD a []) l with
   | none=>exact absurd hl (gK.1 q)
   | some t=>
    rw [q] at this;have h5:((part.getD t 0:Nat):Int) = -1:=this;omega
  have he:=kH hrs hrt fun l=>⟨one hs hv l,one ht (fun l hl=>(hv l hl).symm) l⟩;refine Eq.trans (by rw [Int.ofNat_inj.1 h1]) (IP he ?_)
  have hlen:(rows.getD s []).length=(rows.getD t []).length:=by simpa using congrArg List.length he
  refine List.ext_getElem (by rw [qn,qn,Vp,Vp];exact hlen) fun i k1 k2=> ?_
  have i1:i<(rows.getD s []).length:=by rw [qn,Vp] at k1;exact k1
  have i2:i<(rows.getD t []).length:=by omega
  have hll:(rows.getD s [])[i].1=(rows.getD t [])[i].1:=by
   have:=List.getElem_of_eq he (i:=i) (by simpa using i1)
   simpa using this
  have hm:=hL _ (aZ (d:=[]) hs) _ (List.mem_map_of_mem (f:=Prod.fst) (VU i1))
  have:=hv _ hm
  rw [ru (lp hrs) (show ((rows.getD s [])[i].1,(rows.getD s [])[i].2)∈_ from VU i1),hll,ru (lp hrt) (show ((rows.getD t [])[i].1,(rows.getD t [])[i].2)∈_ from VU i2)] at this;simp only [qn,List.getElem_map];exact Int.ofNat_inj.1 this
def fK (labs:List ByteArray) (rows:List aU) (part:List Nat) (n:Nat):List (List Int)×List Nat:=((List.range n).map (gM labs rows part)).foldl q9 ([],[])
theorem LN (rows:List aU) (part:List Nat) (n:Nat):dp rows part n=((List.range n).map (fun s=>bU part (part.getD s 0) (rows.getD s []))).foldl q9 ([],[]):=by
 induction n with
 | zero=>rfl
 | succ n ih=>
  rw [qk,ih,List.range_succ,Wv,Ws];simp only [Wy,WI,V7,V8];rw [Qq,q9,pos]
  have:(fun x=>cw (bU part (part.getD n 0) (rows.getD n [])) x)=(fun y=>decide (bU part (part.getD n 0) (rows.getD n [])=y)):=by
   funext x
   rw [Bool.eq_iff_iff,iJ,decide_eq_true_eq]
  rw [this]
  rfl
theorem pt {labs:List ByteArray} {rows:List aU} {part:List Nat} (hR: ∀r∈rows,iN (r.map Prod.fst)) (hL: ∀r∈rows, ∀l∈r.map Prod.fst,l∈labs) (hn:pc rows) {n:Nat} (h:n<=rows.length):(fK labs rows part n).2=(dp rows part n).2∧(fK labs rows part n).1.length=(dp rows part n).1.length:=by
 obtain ⟨ds,_,h2,h3⟩:=K0 (f:=fun s=>bU part (part.getD s 0) (rows.getD s [])) (g:=gM labs rows part) (n:=rows.length) (fun i j hi hj=>I9 hR hL hn hi hj) n h;rw [LN,h2,fK,h3];simp
def nB (labs:List ByteArray) (rows:List aU):Nat->List Nat->Nat->Bool->List Nat
 | 0,part,_,_=>part
 | f+1,part,many,first=>if (fK labs rows part rows.length).1.length=many∧first=false then (fK labs rows part rows.length).2 else nB labs rows f (fK labs rows part rows.length).2 (fK labs rows part rows.length).1.length false
theorem Ab {labs:List ByteArray} {rows:List aU} (hR: ∀r∈rows,iN (r.map Prod.fst)) (hL: ∀r∈rows, ∀l∈r.map Prod.fst,l∈labs) (hn:pc rows): ∀(f:Nat) {part:List Nat} {many:Nat},OW rows part many->rows.length+1<=f+many->nB labs rows f part many false=nq rows (f+1) part many
 | 0,part,many,ho,hf=>by
  have:=lg rows ho
  have:=mr rows part
  omega
 | f+1,part,many,ho,hf=>by
  obtain ⟨e1,e2⟩:=pt hR hL hn (part:=part) (Nat.le_refl _);rw [nB,nq,e1,e2]
  by_cases h:e9 rows part=many
  ·rw [if_pos h,if_pos ⟨h,rfl⟩];rfl
  ·rw [if_neg h,if_neg (fun q=>h q.1)]
   have:=lg rows ho
   exact Ab hR hL hn f (mv rows part) (by show rows.length+1<=f+e9 rows part;omega)
theorem FE {labs:List ByteArray} {rows:List aU} {ends:List Bool} (hR: ∀r∈rows,iN (r.map Prod.fst)) (hL: ∀r∈rows, ∀l∈r.map Prod.fst,l∈labs) (hn:pc rows) (h0:0<rows.length):nB labs rows (rows.length+1) (p0 ends) 1 true=bt rows ends:=by
 obtain ⟨e1,e2⟩:=pt hR hL hn (part:=p0 ends) (Nat.le_refl _);have hpos:0<e9 rows (p0 ends):=Nat.lt_of_le_of_lt (Nat.zero_le _) (jy rows (part:=p0 ends) h0);rw [nB,if_neg (fun q=>by cases q.2),bt,nq,if_neg (by omega),e1,e2];exact Ab hR hL hn rows.length (mv rows (p0 ends)) (by show rows.length+1<=rows.length+e9 rows (p0 ends);omega)
theorem mT {σ:Type} (f:σ->Option Nat->σ) (hf: ∀s,f s none=s): ∀ {labs:List ByteArray} {row:aU} (s:σ),labs.Nodup->(row.map Prod.fst).Sublist labs->labs.foldl (fun s l=>f s (look row l)) s=row.foldl (fun s p=>f s (some p.2)) s
 | [],row,s,_,h=>by
  obtain rfl:row=[]:=by simpa using h
  rfl
 | l :: labs,row,s,hn,h=>by
  rw [List.nodup_cons] at hn;rw [V7]
  cases row with
  | nil=>
   show labs.foldl _ (f s none)=_;rw [hf];exact mT f hf (row:=[]) s hn.2 (by simp)
  | cons e row=>
   rw [Wy] at h
   by_cases hl:l=e.1
   ·subst hl
    have hs:(row.map Prod.fst).Sublist labs:=by simpa using h
    have e1:look (e :: row) e.1=some e.2:=by rw [look,List.find?_cons,iJ.2 rfl];rfl
    rw [e1,V7, <- mT f hf (f s (some e.2)) hn.2 hs]
    have: ∀(ls:List ByteArray),(∀m∈ls,m∈labs)-> ∀s,ls.foldl (fun s l=>f s (look (e :: row) l)) s=ls.foldl (fun s l=>f s (look row l)) s:=fun ls=>by
     induction ls with
     | nil=>intro _ s;rfl
     | cons m ls ih=>
      intro hm s;rw [V7,V7];have hme:m≠e.1:=fun q=>hn.1 (q ▸ hm m List.mem_cons_self)
      have:look (e :: row) m=look row m:=by
       have hs:cw m e.1=false:=by
        cases hh:cw m e.1
        ·rfl
        ·exact absurd (iJ.1 hh) hme
       rw [look,List.find?_cons,hs];rfl
      rw [this];exact ih (fun x hx=>hm x (Vv _ hx)) _
    exact this labs (fun m hm=>hm) _
   ·have hs:((e :: row).map Prod.fst).Sublist labs:=by
     rw [Wy]
     cases h with
     | cons _ h=>exact h
     | cons_cons _ h=>exact absurd rfl hl
    have hnl:look (e :: row) l=none:=gK.2 fun q=>hn.1 (hs.subset q);rw [hnl,hf];exact mT f hf s hn.2 hs
def xX (part:List Nat) (order:List Nat) (o:Option Nat):List Nat:=match o with
 | none=>order
 | some t=>match iD part order (part.getD t 0) with
  | some _=>order
  | none=>order++[t]
theorem Jh {part:List Nat}: ∀(row:aU) (order:List Nat),row.foldl (fun o p=>xX part o (some p.2)) order=(dH part order row).1:=by
 refine fg (fun order=>rfl) ?_;intro row e ih order;rw [Ws,ih,kG];simp only [V7,V8];rw [xX,Dz];cases iD part (dH part order row).1 (part.getD e.2 0)<;>rfl
theorem LY {labs:List ByteArray} {row:aU} (part order:List Nat) (hn:labs.Nodup) (h:(row.map Prod.fst).Sublist labs):labs.foldl (fun o l=>xX part o (look row l)) order=(dH part order row).1:=by
 rw [mT (xX part) (fun _=>rfl) order hn h,Jh]
theorem LW {part order:List Nat} (hn:(order.map (fun s=>part.getD s 0)).Nodup) {k:Nat} (hk:k<order.length) {x:Nat} (h:part.getD (order.getD k 0) 0=x):iD part order x=some k:=by
 rw [iD,List.findIdx?_eq_some_iff_getElem]
 have hk':k<(order.map (fun s=>part.getD s 0)).length:=by simpa using hk
 have e:(order.map (fun s=>part.getD s 0))[k]=x:=by
  rw [List.getElem_map, <- h,List.getD_eq_getElem?_getD (l:=order),UM hk,Option.getD_some]
 refine ⟨hk',by rw [e,beq_self_eq_true],fun j hj=> ?_⟩;rw [Bool.not_eq_true,beq_eq_false_iff_ne];intro q
 have:=List.pairwise_iff_getElem.1 hn j k (by omega) hk' hj
 exact this (q.symm.trans e.symm)
theorem F3 {labs:List ByteArray} {rows:List aU} {ends:List Bool} {part:List Nat} {st:wv} (ho:D7 rows part st) (hw:QW rows ends part st) {k:Nat} (hk:k<st.rows.length):fh labs (st.rows.getD k [])=(fh labs (rows.getD (st.order.getD k 0) [])).map (fun t=>if t<0 then -1 else match iD part st.order (part.getD t.toNat 0) with
  | some j=>(j:Int)
  | none=> -1):=by
 rw [fh,fh,List.map_map];refine List.map_congr_left fun l _=> ?_;obtain ⟨h1,h2⟩:=hw.row k hk l;rw [Function.comp]
 cases q:look (rows.getD (st.order.getD k 0) []) l with
 | none=>rw [h1 q];simp
 | some t=>
  obtain ⟨j,j1,j2,j3⟩:=h2 t q;rw [j1];simp only [show ¬((t:Int)<0) by omega,if_false,Int.toNat_natCast,LW ho.nd j2 j3]
mutual
def sX:Ex->Nat->Nat
 | .mk _ _ l,deep=>if 60<deep then 301 else sL l (deep+1) 1
def sL:List Ex->Nat->Nat->Nat
 | [],_,n=>n
 | x :: xs,d,n=>if n<=300 then sL xs d (n+sX x d) else n
end
theorem DF: ∀(l:List Ex) (d n k:Nat) (h:k<l.length),sL (l.take k) d n<=300->sL (l.take (k+1)) d n=sL (l.take k) d n+sX l[k] d
 | [],_,_,_,h,_=>by simp at h
 | x :: xs,d,n,0,_,hn=>by
  simp only [List.take_zero,sL] at hn ⊢;simp [sL,hn]
 | x :: xs,d,n,k+1,h,hn=>by
  simp only [List.take_succ_cons,sL,List.getElem_cons_succ] at hn ⊢
  by_cases hc:n<=300
  ·rw [if_pos hc] at hn ⊢;rw [if_pos hc];exact DF xs d _ k (by simpa using h) hn
  ·rw [if_neg hc] at hn;omega
theorem DE: ∀(l:List Ex) (d n k:Nat),300<sL (l.take k) d n->sL l d n=sL (l.take k) d n
 | [],_,_,_,_=>by simp
 | x :: xs,d,n,0,hn=>by
  simp only [List.take_zero,sL] at hn ⊢;rw [if_neg (by omega)]
 | x :: xs,d,n,k+1,hn=>by
  simp only [List.take_succ_cons,sL] at hn ⊢
  by_cases hc:n<=300
  ·rw [if_pos hc] at hn ⊢;rw [if_pos hc];exact DE xs d _ k hn
  ·rw [if_neg hc,if_neg hc]
mutual
theorem Jo: ∀(x:Ex) (d:Nat),d<=61->1<=sX x d∧sX x d<=301+300 * (61 - d)
 | .mk _ _ l,d,h=>by
  rw [sX]
  split
  ·omega
  ·have:=Cd l (d+1) 1 (by omega);omega
theorem Cd: ∀(l:List Ex) (d n:Nat),d<=61->n<=sL l d n∧sL l d n<=max n (601+300 * (61 - d))
 | [],d,n,h=>by rw [sL];omega
 | x :: xs,d,n,h=>by
  rw [sL]
  split
  ·have h1:=Jo x d h;have h2:=Cd xs d (n+sX x d) h;omega
  ·omega
end
def T0 (a b:Ex):Nat:=if sX a 0<=300 then sX a 0+sX b 0 else sX a 0
def R9 (w:List ByteArray) (a b:Ex):Bool:=decide (300<T0 a b)||decide (30<w.length)
noncomputable def partAt (p q:List ByteArray->Bool) (w:List ByteArray) (n:Nat):Bool:=(List.range n).any (fun k=>p (w.take k)&&q (w.drop k))
section
variable {a b:Ex} (ha:ay a=true) (hb:ay b=true) (na:(ah a).length<=11) (nb:(ah b).length<=11)
include ha hb na nb
omit hb nb
end
end
theorem Fm (x:Ex): ∀d:Nat,d<=61->ar Tryz.prog 7 [.agg (aN x), .v (.int .i64 d)] (.v (.int .i64 (sX x d:Nat))):=by
 induction x using Ex.ind with
 | h k s l ih=>
  intro d hd61;simp only [aD,sX,Ex.kind,Ex.label,Ex.kids]
  by_cases hdd:60<d
  ·rw [if_pos hdd];have hd0:decide (60<(d:Int))=true:=decide_eq_true (by omega);refine gE Tryz.func7 Tryz.ntmps7 Tryz.results7 ?_;refine aM hd0 ?_
   rfl
  ·rw [if_neg hdd];have hd0:decide (60<(d:Int))=false:=decide_eq_false (by omega);have eD:=ak (k:=d) (by omega);refine gE Tryz.func7 Tryz.ntmps7 Tryz.results7 ?_
   (refine aM hd0 ?_;intro K hK)
   refine bz (ι:=Nat) 9 (fun i=>[(5, .v (.int .i64 (sL (l.take i) (d+1) 1:Nat))),(6, .v (.int .i64 i))]) (fun i=>l.length - i) (fun i=>i<=l.length∧i+1<=sL (l.take i) (d+1) 1) 0 ⟨UE _,Nat.le_refl _⟩ ?_ ?_
   ·refine bo ?_ aj;exact ⟨rfl,rfl⟩
   rintro i ⟨hi,hin⟩ K hK;have hr:=Cd (l.take i) (d+1) 1 (by omega)
   (revert K;revert K;refine aw ?_;iterate 5 intro K hK)
   refine bH.part (fun h=> ?_) (fun h=> ?_)
   ·have hlt:i<l.length:=by replace h:=bI h;omega
    by_cases hb2:sL (l.take i) (d+1) 1<=300
    ·have eW:=ak (k:=i) (by omega);have eG:=getD_map aN l i [] hlt;have HX:=ih l[i] (List.getElem_mem hlt) (d+1) (by omega);have eT:=DF l (d+1) 1 i hlt hb2;have hr2:=Jo l[i] (d+1) (by omega);have hd:decide (((sL (l.take i) (d+1) 1:Nat):Int)<=300)=true:=decide_eq_true (by omega)
     have eS:IntKind.i64.wrap (((sL (l.take i) (d+1) 1:Nat):Int)+((sX l[i] (d+1):Nat):Int))=((sL (l.take (i+1)) (d+1) 1:Nat):Int):=by rw [cF (by omega) (by omega),eT];omega
     simp only [aD] at HX eG
     repeat (first|(with_reducible first|refine aA.up ?_|refine fun (K:AK) hK=> ?_|(refine hK _ ?_;clear hK K))|simp only [go_sem,hd,h,eG,aD,eD]|with_reducible refine wA ?_|clear hK K)
     refine ab.one HX ?_
     ((iterate 4 revert K);refine qL eS eW ?_)
     exact az.mk (i+1) ⟨by omega,by omega⟩ (by omega) (by exact aR aj)
    ·have eT:=DE l (d+1) 1 i (by omega);have hd:decide (((sL (l.take i) (d+1) 1:Nat):Int)<=300)=false:=decide_eq_false (by omega)
     ((iterate 5 revert K);refine qL hd h ?_)
     rw [eT]
   ·have e1:l.take i=l:=by rw [show i=l.length by replace h:=bI h;omega,Xi]
    ((iterate 5 revert K);exact Hy e1 h)
theorem mU (k:Int) (rows:List (List AV)) (n:Nat) (hw:bw 0 rows=true):ar Tryz.prog 24 [.v (.int .i64 k), .aC 3 rows n] (.agg [.v (.int .i64 k), .v (.string ⟨#[]⟩), .aC 3 rows n]):=by
 (refine ar.enter Tryz.func24 rfl (by kernel_rfl) (by kernel_rfl) rfl (by simp only [go_sem,aV,AV.wf,WA,Bool.and_true,Bool.true_and,hw]) (by simp only [go_sem,aV,AV.wf,a7,WA,Bool.and_true,Bool.true_and,hw]) ?_;simp only [Tryz.ntmps24,Tryz.results24,List.length_cons,List.length_nil,Nat.reduceAdd,Nat.reduceSub,List.replicate_succ,List.replicate_zero,List.cons_append,List.nil_append])
 repeat' (first|(with_reducible first|refine aA.up ?_|refine fun (K:AK) hK=> ?_|(refine hK _ ?_;clear hK K))|simp only [go_sem]|clear hK K|(with_reducible refine ab.one (by assumption) ?_)|(with_reducible refine bj.one (by assumption) ?_)|(refine bH.part (fun hb=> ?_) (fun hb=> ?_)<;>simp only [hb,go_sem])|(refine bH.part (fun hb=> ?_) (fun hb=> ?_))|(with_reducible refine nt.mk ?_ ?_))
 refine jm.of 40 rfl ?_;simp only [go_sem,hw]
theorem s7 (s:ByteArray):ar Tryz.prog 25 [.v (.string s)] (.agg [.v (.int .i64 1), .v (.string s), .v (.slice none 0 0)]):=by
 refine gE Tryz.func25 Tryz.ntmps25 Tryz.results25 ?_
 repeat' (first|(with_reducible first|refine aA.up ?_|refine fun (K:AK) hK=> ?_|(refine hK _ ?_;clear hK K))|simp only [go_sem]|clear hK K|(with_reducible refine ab.one (by assumption) ?_)|(with_reducible refine bj.one (by assumption) ?_)|(refine bH.part (fun hb=> ?_) (fun hb=> ?_)<;>simp only [hb,go_sem])|(refine bH.part (fun hb=> ?_) (fun hb=> ?_))|(with_reducible refine nt.mk ?_ ?_))
 (refine jm.of 40 rfl ?_;simp only [go_sem])
theorem wU {x:Ex} {A:pJ} (h:jq x (bT x) = .inl A):ay x=true∧A.labs=bT x∧Mu x A∧Nf A:=by
 have hr:ay x=true:=by
  cases hr:ay x
  ·rw [jq,hr] at h;simp at h
  ·rfl
 have L:=En hr (iT x) (xy hr) (fun l hl=>kC.2 hl) h
 have e:A.labs=bT x:=by
  rw [jq,if_pos hr] at h
  split at h
  ·split at h
   ·cases h
   ·simp only [Sum.inl.injEq] at h;rw [<-h];rfl
  ·cases h
 exact ⟨hr,e,L,{ L.toAOk with nd:=by rw [e];exact iT x,sz:=by rw [e];exact Dq hr,PZ:=by rw [e];exact xx hr }⟩
theorem lI {s:ByteArray} (h:s.size<=100):zM s:=by unfold zM;omega
mutual
def xe:Ex->List AV
 | .mk k s l=>[.v (.int .i64 k), .v (.string s),if l.isEmpty then .v (.slice none 0 0) else .aC 3 (yT l) l.length]
def yT:List Ex->List (List AV)
 | []=>[]
 | x :: xs=>xe x :: yT xs
end
theorem yU: ∀l:List Ex,yT l=l.map xe
 | []=>rfl
 | x :: xs=>by rw [yT,yU xs];rfl
theorem xg (x:Ex):Cv (xe x) (aN x):=by
 induction x using Ex.ind with
 | h k s l ih=>
  rw [xe,aD];refine .cons (.refl _) (.cons (.refl _) (.cons ?_ .nil))
  cases l with
  | nil=>exact .nil 3
  | cons y l=>
   have:=Le.rows (z:=3) (f:=xe) (g:=aN) (xs:=y :: l) (more:=[]) ih
   rw [List.append_nil] at this;rw [yU];exact this
theorem Eo:ar Tryz.prog 8 [] (.v (.bool true)):=by
 have oA:J0.ok:=by simp only [J0,J3,Ex.ok,nz,and_true];exact ⟨lI (by decide),lI (by decide),lI (by decide),lI (by decide)⟩
 have oB:J1.ok:=by simp only [J1,J3,Ex.ok,nz,and_true];exact ⟨lI (by decide),lI (by decide),lI (by decide),lI (by decide),lI (by decide),lI (by decide)⟩
 have oC:J2.ok:=by simp only [J2,J3,Ex.ok,nz,and_true];exact ⟨lI (by decide),lI (by decide)⟩
 have NA:=(xa J0 oA).le (args':=[.agg (xe J0)]) rfl (.cons (xg J0).agg .nil);have NB:=(xa J1 oB).le (args':=[.agg (xe J1)]) rfl (.cons (xg J1).agg .nil);have NC:=(xa J2 oC).le (args':=[.agg (xe J2)]) rfl (.cons (xg J2).agg .nil);rw [xK,PL] at NA;rw [xK,PM] at NB;rw [xK,R3] at NC;have lA:=(wU PL).2.2.2;have lB:=(wU PM).2.2.2;have C1:ar Tryz.prog 28 [.vp (de AF)] (.v (.int .i64 2)):=nN AF;have C2:=sd AF rfl 0;rw [show ep AF 0=true by kernel_rfl] at C2;have C3:=sd AF rfl 1;rw [show ep AF 1=false by kernel_rfl] at C3;have S1:=ri AF 0 ta;rw [show iK AF 0 ta=some 1 by kernel_rfl] at S1;have S2:=ri AF 1 tb;rw [show iK AF 1 tb=some 0 by kernel_rfl] at S2;have S3:=ri AF 0 tb;rw [show iK AF 0 tb=none by kernel_rfl] at S3;have E1:=Da lB lB;rw [show vW Nu Nu=true by kernel_rfl] at E1;have E2:=Da lA lB;rw [show vW AF Nu=false by kernel_rfl] at E2;have wA:=mD 0 AF;have wB:=mD 0 Nu;have L1:=s7 ta;have L2:=s7 tb;have O1:=mU 2 [[.v (.int .i64 1), .v (.string ta), .v (.slice none 0 0)],[.v (.int .i64 1), .v (.string tb), .v (.slice none 0 0)]] 2 rfl;have O2:=mU 4 [[.v (.int .i64 2), .v (.string ⟨#[]⟩), .aC 3 [[.v (.int .i64 1), .v (.string ta), .v (.slice none 0 0)],[.v (.int .i64 1), .v (.string tb), .v (.slice none 0 0)]] 2]] 1 rfl;have O3:=mU 4 [[.v (.int .i64 1), .v (.string ta), .v (.slice none 0 0)]] 1 rfl;have O4:=mU 2 [[.v (.int .i64 1), .v (.string ta), .v (.slice none 0 0)],[.v (.int .i64 4), .v (.string ⟨#[]⟩), .aC 3 [[.v (.int .i64 1), .v (.string ta), .v (.slice none 0 0)]] 1]] 2 rfl;have O5:=mU 3 [[.v (.int .i64 1), .v (.string ta), .v (.slice none 0 0)],[.v (.int .i64 2), .v (.string ⟨#[]⟩), .aC 3 [[.v (.int .i64 1), .v (.string ta), .v (.slice none 0 0)],[.v (.int .i64 4), .v (.string ⟨#[]⟩), .aC 3 [[.v (.int .i64 1), .v (.string ta), .v (.slice none 0 0)]] 1]] 2]] 2 rfl;have O6:=mU 5 [[.v (.int .i64 1), .v (.string ta), .v (.slice none 0 0)]] 1 rfl;have c0:((0:Nat):Int)=0:=rfl;have c1:((1:Nat):Int)=1:=rfl;simp only [stepT,Option.getD_some,Option.isSome_some,Option.getD_none,Option.isSome_none,c0,c1] at S1 S2 S3;simp only [J0,J1,J2,J3,xe,yT,List.isEmpty_nil,List.isEmpty_cons,List.length_cons,List.length_nil,Nat.reduceAdd,if_true,Bool.false_eq_true,if_false,ta,tb] at NA NB NC L1 L2 O1 O2 O3 O4 O5 O6 S1 S2 S3;generalize de AF=vA at *;generalize de Nu=vB at *;refine gE Tryz.func8 Tryz.ntmps8 Tryz.results8 ?_
 (refine aw ?_;intro K hK K hK)
 refine ab.one L1 ?_
 (revert K;revert K;refine aw ?_;intro K hK K hK)
 refine ab.one L2 ?_
 (revert K;revert K;refine aw ?_;intro K hK K hK)
 refine ab.EV O1 rfl (by simp only [go_sem,Nat.reduceLT,Nat.reduceLeDiff,Nat.reduceEqDiff,WX,WY,and_self]) ?_
 (revert K;revert K;refine aw ?_;intro K hK K hK)
 refine ab.EV O2 rfl (by simp only [go_sem,Nat.reduceLT,Nat.reduceLeDiff,Nat.reduceEqDiff,WX,WY,and_self]) ?_
 (revert K;revert K;refine aw ?_;intro K hK K hK)
 refine ab.one NA ?_
 (revert K;revert K;refine gy ?_;intro K hK K hK K hK)
 refine ab.one C1 ?_
 ((iterate 3 revert K);refine gy ?_;intro K hK K hK K hK)
 refine ab.one C2 ?_
 ((iterate 3 revert K);refine gy ?_;intro K hK K hK K hK)
 refine ab.one C3 ?_
 ((iterate 3 revert K);refine gy ?_;intro K hK K hK)
 refine ab.one S1 ?_
 (revert K;revert K;refine gy ?_;intro K hK K hK)
 refine ab.one S2 ?_
 (revert K;revert K;refine gy ?_;intro K hK K hK)
 refine ab.one S3 ?_
 (revert K;revert K;refine gy ?_;intro K hK K hK)
 refine ab.one L1 ?_
 (revert K;revert K;refine gy ?_;intro K hK K hK)
 refine ab.one L1 ?_
 (revert K;revert K;refine gy ?_;intro K hK K hK)
 refine ab.one L1 ?_
 (revert K;revert K;refine gy ?_;intro K hK K hK)
 refine ab.EV O3 rfl (by simp only [go_sem,Nat.reduceLT,Nat.reduceLeDiff,Nat.reduceEqDiff,WX,WY,and_self]) ?_
 (revert K;revert K;refine gy ?_;intro K hK K hK)
 refine ab.EV O4 rfl (by simp only [go_sem,Nat.reduceLT,Nat.reduceLeDiff,Nat.reduceEqDiff,WX,WY,and_self]) ?_
 (revert K;revert K;refine gy ?_;intro K hK K hK)
 refine ab.EV O5 rfl (by simp only [go_sem,Nat.reduceLT,Nat.reduceLeDiff,Nat.reduceEqDiff,WX,WY,and_self]) ?_
 (revert K;revert K;refine gy ?_;intro K hK K hK)
 refine ab.one NB ?_
 (revert K;revert K;refine gy ?_;intro K hK K hK)
 refine ab.one L1 ?_
 (revert K;revert K;refine gy ?_;intro K hK K hK)
 refine ab.EV O6 rfl (by simp only [go_sem,Nat.reduceLT,Nat.reduceLeDiff,Nat.reduceEqDiff,WX,WY,and_self]) ?_
 (revert K;revert K;refine gy ?_;intro K hK K hK)
 refine ab.one NC ?_
 (revert K;revert K;refine gy ?_;intro K hK K hK)
 refine ab.one E1 ?_
 (revert K;revert K;refine gy ?_;intro K hK K hK)
 refine ab.one E2 ?_
 (revert K;revert K;exact P7)
theorem H3 (l:List Int) {i:Nat} (h:i<l.length):(l.map encI).getD i []=[.v (.int .i64 l[i])]:=by
 rw [Vq,List.getElem?_map,UM h];rfl
@[go_sem] theorem JV (n:Nat) (l:List Int):bw n (l.map encI)=true:=bB _ (fun _=>rfl) _
theorem Jp (a b:List Int) (ha:a.length<=1000000) (hb:b.length<=1000000):ar Tryz.prog 105 [.aC 1 (a.map encI) a.length, .aC 1 (b.map encI) b.length] (.v (.bool (decide (a=b)))):=by
 generalize hrv:decide (a=b)=rv;refine gE Tryz.func105 Tryz.ntmps105 Tryz.results105 ?_
 (refine ez ?_;intro K hK)
 refine bz (ι:=Nat) 6 (fun i=>[(5, .v (.int .i64 i))]) (fun i=>a.length - i) (fun i=>i<=a.length∧i<=b.length∧a.take i=b.take i) 0 ⟨UE _,UE _,by simp⟩ ?_ ?_
 ·refine bo ?_ aj
  all_goals rfl
 ·rintro i ⟨h1,h2,h3⟩ K hK;have eW:=ak (k:=i) (by omega)
  have out:(i<a.length-> ¬i<b.length)->((a.length:Int)==(b.length:Int))=rv:=fun hh=>by
   rw [<-hrv,Bool.eq_iff_iff,beq_iff_eq,decide_eq_true_eq];refine ⟨fun e=> ?_,fun e=>by rw [e]⟩
   have e':a.length=b.length:=by omega
   have hi:i=a.length:=by
    rcases Nat.lt_or_ge i a.length with q|q
    ·exact absurd (by omega) (hh q)
    ·omega
   rw [hi,Xi,e',Xi] at h3;exact h3
  by_cases d1:i<a.length
  ·have e1:decide ((i:Int)<(a.length:Int))=true:=decide_eq_true (by omega)
   by_cases d2:i<b.length
   ·have e2:decide ((i:Int)<(b.length:Int))=true:=decide_eq_true (by omega);have gA:=H3 a d1;have gB:=H3 b d2
    repeat (first|(with_reducible first|refine aA.up ?_|refine fun (K:AK) hK=> ?_|refine wD ?_|(refine hK _ ?_;clear hK K))|simp only [go_sem,e1,e2,gA,gB,Go.undef]|with_reducible refine wA ?_|clear hK K)
    refine bH.part (fun g=> ?_) (fun g=> ?_)
    ·have hne:a[i]≠b[i]:=by replace g:=bI g;exact g
     have:rv=false:=by
      rw [<-hrv,decide_eq_false_iff_not];intro e;subst e;exact hne rfl
     ((iterate 3 revert K);refine ez ?_)
     rw [this]
    ·have he:a[i]=b[i]:=by replace g:=bI g;exact g
     ((iterate 3 revert K);refine ve eW ?_)
     exact az.mk (i+1) ⟨d1,d2,by rw [WG d1,WG d2,h3,he]⟩ (by omega) (by exact aR aj)
   ·have e2:decide ((i:Int)<(b.length:Int))=false:=decide_eq_false (by omega);have ho:=out fun _=>d2
    (revert K;revert K;refine NI e1 e2 ?_)
    rw [ho]
  ·have e1:decide ((i:Int)<(a.length:Int))=false:=decide_eq_false (by omega);have ho:=out fun q=>absurd q d1
   (revert K;revert K;refine NH e1 ?_)
   rw [ho]
def da (L:List (List Int)):List (List AV):=L.map (fun l=>[AV.aC 1 (l.map encI) l.length])
theorem dN (L:List (List Int)):(da L).length=L.length:=by simp [da]
theorem oY (L:List (List Int)) {i:Nat} (h:i<L.length):(da L).getD i []=[.aC 1 (L[i].map encI) L[i].length]:=by
 rw [Vq,da,List.getElem?_map,UM h];rfl
@[go_sem] theorem jW (n:Nat) (L:List (List Int)):bw n (da L)=true:=bB _ (fun l=>by simp only [aV,AV.wf,JV,WA]) _
def Nt (L:List (List Int)) (s:List Int):Int:=match L.findIdx? (fun y=>decide (s=y)) with
 | some k=>(k:Int)
 | none=> -1
theorem GL (L:List (List Int)) (s:List Int) (hL:L.length<=1000000) (hl: ∀l∈L,l.length<=1000000) (hs:s.length<=1000000):ar Tryz.prog 71 [.aC 1 (da L) L.length, .aC 1 (s.map encI) s.length] (.v (.int .i64 (Nt L s))):=by
 generalize hrv:Nt L s=rv;refine gE Tryz.func71 Tryz.ntmps71 Tryz.results71 ?_
 (refine aw ?_;intro K hK)
 refine bz (ι:=Nat) 6 (fun i=>[(5, .v (.int .i64 i))]) (fun i=>L.length - i) (fun i=>i<=L.length∧ ∀(j:Nat) (h:j<L.length),j<i->L[j]≠s) 0 ⟨UE _,fun j _ h=>absurd h (Nat.not_lt_zero _)⟩ ?_ ?_
 ·refine bo ?_ aj
  all_goals rfl
 ·rintro i ⟨h1,h2⟩ K hK;have eW:=ak (k:=i) (by omega)
  (revert K;revert K;refine aw ?_;intro K hK K hK K hK)
  refine bH.part (fun g=> ?_) (fun g=> ?_)
  ·have hlt:i<L.length:=by replace g:=oE g;omega
   have eG:=oY L hlt;have C:=Jp L[i] s (hl _ (List.getElem_mem hlt)) hs
   repeat (first|(with_reducible first|refine aA.up ?_|refine fun (K:AK) hK=> ?_|(refine hK _ ?_;clear hK K))|simp only [go_sem,g,eG,dN]|with_reducible refine wA ?_|clear hK K)
   refine ab.one C ?_
   by_cases he:L[i]=s
   ·have e1:decide (L[i]=s)=true:=decide_eq_true he
    have:(i:Int)=rv:=by
     rw [<-hrv,Nt]
     have:L.findIdx? (fun y=>decide (s=y))=some i:=by
      rw [List.findIdx?_eq_some_iff_getElem];exact ⟨hlt,decide_eq_true he.symm,fun j hj=>by simpa using fun q=>h2 j (by omega) hj q.symm⟩
     rw [this]
    ((iterate 5 revert K);refine aM e1 ?_)
    rw [this]
   ·have e1:decide (L[i]=s)=false:=decide_eq_false he
    ((iterate 5 revert K);refine qL e1 eW ?_)
    refine az.mk (i+1) ⟨hlt,fun j hj hji=> ?_⟩ (by omega) (by exact aR aj)
    rcases Nat.lt_succ_iff_lt_or_eq.1 hji with q|rfl
    ·exact h2 j hj q
    ·exact he
  ·have hin:i=L.length:=by replace g:=oE g;omega
   have:rv = -1:=by
    rw [<-hrv,Nt]
    have:L.findIdx? (fun y=>decide (s=y))=none:=by
     rw [List.findIdx?_eq_none_iff];intro y hy;obtain ⟨j,hj,rfl⟩:=List.getElem_of_mem hy;exact decide_eq_false fun q=>h2 j hj (by omega) q.symm
    rw [this]
   ((iterate 3 revert K);refine aw ?_)
   rw [this]
section
theorem lz {n:Nat} {a b:List (Option aa)}: ∀ {l:List (Option aa)},(∀ob,some ob∈l->bw n ob.rows=true)->j7 n a b->j7 n (l++a) (l++b)
 | [],_,h=>h
 | x :: l,hl,h=>⟨.inr ⟨rfl,fun ob e=>hl ob (by rw [e];simp)⟩,lz (fun ob hb=>hl ob (List.mem_cons_of_mem _ hb)) h⟩
theorem mF (n N:Nat) (f:Nat->Nat->Bool): ∀(m:Nat) ob,some ob∈aT N f m->bw n ob.rows=true
 | 0,ob,h=>by cases h
 | m+1,ob,h=>by
  rw [dP,List.mem_append] at h
  rcases h with h|h
  ·exact mF n N f m ob h
  ·simp only [List.mem_cons,List.not_mem_nil,or_false,reduceCtorEq] at h;rw [jA] at h;cases h;exact aS _ _ _
theorem AD {n k N m:Nat} {f:Nat->Nat->Bool} (h:k+2 * m<=n):j7 n (bN k N m f) (bN k N m f):=by
 have:=lz (n:=n) (a:=[]) (b:=[]) (l:=bN k N m f) (fun ob hb=>by
  rw [bN,List.mem_cons] at hb
  rcases hb with e|hb
  ·cases e;exact jC h
  ·exact mF _ _ _ _ _ hb) trivial
 simpa using this
theorem uG (N m:Nat):aX 0 N (m+1)=aX 0 N m++[[.vec (2 * m+1) N]]:=by
 rw [dn,show j5 0 m=2 * m+1 by unfold j5;omega]
theorem BJ {N m:Nat} {f:Nat->Nat->Bool} {a b:Option aa}:(aT N f m++[a,b])[2 * m+1]? = some b:=by
 rw [List.getElem?_append_right (by rw [ag];omega),ag,show 2 * m+1 - 2 * m=1 by omega];rfl
theorem zF (n:Nat) (hn:n<=1000):c7 Tryz.prog 165 [.v (.int .i64 n)] [] (.vec 0 (n+1)) (bN 0 (n+1) (n+1) (fun _ _=>false)):=by
 have eN:=ak (k:=n) (by omega);refine gF Tryz.func165 Tryz.ntmps165 Tryz.results165 ?_
 (refine aw ?_;intro K hK)
 refine mL (ι:=Nat) 3 54 1 rfl (by decide) 5 (fun i=>[(3, .vec 0 i),(4, .v (.int .i64 i))]) (fun i=>bN 0 (n+1) i (fun _ _=>false)) (fun i=>n+1 - i) (fun i=>i<=n+1) 0 (by omega) ?_ ?_
 ·refine P4 ?_ ?_ ?_ aj
  ·exact ⟨rfl,rfl⟩
  ·exact AD (by simp [bN])
  ·exact UE _
 ·intro i hi K hK;simp only [bN]
  (revert K;revert K;refine aw ?_;intro K hK K hK K hK)
  refine bH.part (fun h=> ?_) (fun h=> ?_)
  ·have eW:=ak (k:=i) (by replace h:=bI h;omega);have eL:([AV.v (.bool false)] :: List.replicate n [AV.v (.bool false)])=cM (n+1) (fun _=>false):=jj (n+1)
   repeat (first|(with_reducible first|refine aA.up ?_|refine fun (K:AK) hK=> ?_|(refine hK _ ?_;clear hK K))|simp only [go_sem,eN,eW,eL,ag,BJ]|with_reducible refine wA ?_|clear hK K)
   refine az.mk (i+1) (by replace h:=bI h;omega) (by replace h:=bI h;omega) (aj ?_ ?_ ?_)
   ·simp only [bN,ag,UD];simp only [go_sem,di,true_or,or_true,true_and,and_true];exact .inr (decide_eq_true (by omega))
   ·show j7 (bN 0 (n+1) (i+1) (fun _ _=>false)).length _ (bN 0 (n+1) (i+1) (fun _ _=>false));generalize hz:(bN 0 (n+1) (i+1) (fun _ _=>false)).length=z
    have hz':z=2 * (i+1)+1:=by rw [<-hz,bN,UD,ag]
    have hwf:bw z (aX 0 (n+1) (i+1))=true:=jC (by omega);simp only [bN,dP];refine ⟨.inr ⟨by rw [uG],fun ob e=>by cases e;exact hwf⟩,lz (fun ob h=>mF _ _ _ _ _ h) ⟨.inr ⟨rfl,fun ob e=>by cases e;exact aS _ _ _⟩, .inl rfl,trivial⟩⟩
   ·exact UE _
  ·have e1:i=n+1:=by replace h:=bI h;omega
   simp only [e1]
   ((iterate 3 revert K);refine aw ?_)
   refine ⟨?_, ?_,UE _⟩
   ·exact ⟨.inr ⟨rfl,decide_eq_true (by simp [bN])⟩,trivial⟩
   ·exact AD (by simp [bN,ag])
theorem jT (f:Nat->Nat) (N:Nat) (g:Nat->Bool):cv f (cM N g)=cM N g:=dy f _ (aS 0 N g)
theorem qs (f:Nat->Nat): ∀(a:List (List AV)) (b:List AV),cv f (a++[b])=cv f a++[bM f b]
 | [],b=>rfl
 | x :: a,b=>by rw [WE,cv,qs f a b];rfl
theorem qU (k N:Nat): ∀m,cv (sig [] k) (aX 0 N m)=aX k N m
 | 0=>rfl
 | m+1=>by
  rw [dn,dn,qs,qU k N m];simp only [cv,bM,AV.bb,sig,Ux,Nat.not_lt_zero,if_false,j5];rw [show k+(0+1+2 * m - 0)=k+1+2 * m by omega]
theorem Jd (k N:Nat) (f:Nat->Nat->Bool): ∀m,(bN 0 N m f).map (Option.map (aa.bb (sig [] k)))=bN k N m f:=fun m=>by
 have h: ∀m,(aT N f m).map (Option.map (aa.bb (sig [] k)))=aT N f m:=fun m=>by
  induction m with
  | zero=>rfl
  | succ m ih=>rw [dP,List.map_append,ih];simp only [List.map_cons,List.map_nil,jA,Option.map_some,Option.map_none,aa.bb,jT]
 rw [bN,List.map_cons,h,Option.map_some,aa.bb,bN];simp only [qU]
theorem ab.xL {n:Nat} {o:List (Option aa)} {K:AV->List (Option aa)->Prop} (hn:n<=1000) (k:K (.vec o.length (n+1)) (o++bN o.length (n+1) (n+1) (fun _ _=>false))):ab Tryz.prog 165 [.v (.int .i64 n)] o K:=by
 refine ab.fr [] (zF n hn) List.nodup_nil rfl rfl rfl (fun k ob h=>by simp at h) ?_;have e1:(AV.vec 0 (n+1)).bb (sig [] o.length) = .vec o.length (n+1):=rfl;rw [e1,ej,Jd];exact k
theorem gd (k N m:Nat) (f:Nat->Nat->Bool):(bN k N m f).length=2 * m+1:=by rw [bN,UD,ag]
theorem oz {t t':List AV} {y:jo} {N m:Nat} {f:Nat->Nat->Bool} (h:di (2 * m+1) t t'):Wk 0 ⟨t,some ⟨54,1,true,aX 0 N m⟩ :: aT N f m,y⟩ ⟨t',bN 0 N m f,y⟩:=
 aj (by rw [gd];exact h) (by rw [gd];exact AD (by omega)) (UE _)
def PV (i j:Nat):Bool:=decide (i=j)
def q7 (i p q:Nat):Bool:=decide (p=q)&&decide (p<i)
theorem EK (i:Nat):lv (q7 i) i i true=q7 (i+1):=by
 funext p q
 rw [lv,q7,q7]
 split
 ·rename_i h;obtain ⟨rfl,rfl⟩:=h;simp
 ·rename_i h
  by_cases hpq:p=q
  ·have:(p<i↔p<i+1):=by omega
   simp [hpq, <- this];omega
  ·simp [hpq]
theorem qB (n:Nat) (hn:n<=1000):ar Tryz.prog 166 [.v (.int .i64 n)] (.aC 1 (j8 (n+1) PV) (n+1)):=by
 have hd:decide (0<2 * (n+1)+1)=true:=decide_eq_true (by omega);refine kf.OF ?_
 (refine kf.enter Tryz.func166 rfl (by kernel_rfl) (by kernel_rfl) rfl (by simp only [go_sem,aV,AV.wf,WA,VZ,VO,Go.undef]) (by simp only [go_sem,aV,AV.wf,a7,WA,VZ,VO,Go.undef]) ?_;simp only [Tryz.ntmps166,Tryz.results166,UD,Ux,Nat.reduceAdd,Nat.reduceSub,Wc,Wd,WE,Wt])
 (refine aw ?_;intro K hK K hK)
 refine ab.xL hn ?_;simp only [Ux,Wt]
 (revert K;revert K;refine aw ?_;intro K hK)
 refine aQ (ι:=Nat) 7 (fun i=>[(4, .v (.int .i64 i))]) (fun i=>bN 0 (n+1) (n+1) (q7 i)) (fun i=>n+1 - i) (fun i=>i<=n+1) 0 (by omega) ?_ ?_
 ·have e0:(fun _ _=>false)=q7 0:=by funext p q;simp [q7]
  rw [e0];refine oz ?_;simp only [go_sem,di,true_or,or_true,true_and,and_true,hd];exact .inr rfl
 ·intro i hi K hK;simp only [bN]
  (revert K;revert K;refine aw ?_;intro K hK K hK K hK)
  refine bH.part (fun h=> ?_) (fun h=> ?_)
  ·have hlt:i<n+1:=by replace h:=R8 h;omega
   have eW:=ak (k:=i) (by replace h:=R8 h;omega);have eO:=jx (k:=0) (N:=n+1) hlt;have hO: ∀x,(x :: aT (n+1) (q7 i) (n+1))[j5 0 i]? = _:=fun x=>kD (k:=0) (x:=x) hlt;have eR:=cR (g:=q7 i i) hlt;have eS:=fun x=>ml (N:=n+1) (j:=i) (f:=q7 i) (v:=true) (x:=x) hlt
   repeat (first|(with_reducible first|refine aA.up ?_|refine fun (K:AK) hK=> ?_|(refine hK _ ?_;clear hK K))|simp only [go_sem,eW,eO,hO,jA,eR,eS,EK]|with_reducible refine wA ?_|clear hK K)
   refine az.mk (i+1) (by omega) (by omega) (oz ?_);simp only [go_sem,di,true_or,or_true,true_and,and_true,hd]
  ·have e1:i=n+1:=by replace h:=R8 h;omega
   have eA:aT (n+1) (q7 (n+1)) (n+1)=aT (n+1) PV (n+1):=e8 fun p q hp _=>by simp [q7,PV,hp]
   simp only [e1]
   ((iterate 3 revert K);refine aw ?_)
   rw [eA];exact o9 _ _
def Ob (a b:Nat->Nat->Bool) (i j:Nat):Bool:=decide (i<=j)&&(a i j||b i j)
def j4 (a b:Nat->Nat->Bool) (i j p q:Nat):Bool:=decide (p<i∨(p=i∧q<j))&&Ob a b p q
theorem FA {a b:Nat->Nat->Bool} {i j:Nat} (h:i<=j):lv (j4 a b i j) i j (a i j||b i j)=j4 a b i (j+1):=by
 funext p q
 rw [lv,j4,j4]
 split
 ·rename_i e;obtain ⟨rfl,rfl⟩:=e;simp [Ob,h]
 ·rename_i e
  congr 1
  rw [decide_eq_decide];omega
theorem IM {a b:Nat->Nat->Bool} {i:Nat}:j4 a b i i=j4 a b i 0:=by
 funext p q
 rw [j4,j4,WL];simp only [Ob,Vj,decide_eq_true_eq]
 constructor
 ·rintro ⟨h1,h2,h3⟩;exact ⟨by omega,h2,h3⟩
 ·rintro ⟨h1,h2,h3⟩;exact ⟨by omega,h2,h3⟩
theorem Fy {a b:Nat->Nat->Bool} {N i:Nat}:aT N (j4 a b i N) N=aT N (j4 a b (i+1) 0) N:=e8 fun p q hp hq=>by
 rw [j4,j4];congr 1;rw [decide_eq_decide];omega
theorem nP (n:Nat) (a b:Nat->Nat->Bool) (hn:n<=1000):ar Tryz.prog 168 [.aC 1 (j8 (n+1) a) (n+1), .aC 1 (j8 (n+1) b) (n+1)] (.aC 1 (j8 (n+1) (Ob a b)) (n+1)):=by
 have hd:decide (0<2 * (n+1)+1)=true:=decide_eq_true (by omega)
 have eN:IntKind.i64.wrap (((n+1:Nat):Int) - 1)=(n:Int):=by rw [cF (by omega) (by omega)];omega
 refine kf.OF ?_
 (refine kf.enter Tryz.func168 rfl (by kernel_rfl) (by kernel_rfl) rfl (by simp only [go_sem,aV,AV.wf,WA,VZ,VO,Go.undef]) (by simp only [go_sem,aV,AV.wf,a7,WA,VZ,VO,Go.undef]) ?_;simp only [Tryz.ntmps168,Tryz.results168,UD,Ux,Nat.reduceAdd,Nat.reduceSub,Wc,Wd,WE,Wt])
 (refine kz eN ?_;intro K hK K hK)
 refine ab.xL hn ?_;simp only [Ux,Wt]
 (revert K;revert K;refine dO ?_;intro K hK)
 refine aQ (ι:=Nat) 12 (fun i=>[(6, .v (.int .i64 i)),(7, .undef)]) (fun i=>bN 0 (n+1) (n+1) (j4 a b i 0)) (fun i=>n+1 - i) (fun i=>i<=n+1) 0 (by omega) ?_ ?_
 ·have e0:(fun _ _=>false)=j4 a b 0 0:=by funext p q;simp [j4]
  rw [e0];refine oz ?_;simp only [go_sem,di,true_or,or_true,true_and,and_true,hd];exact .inr rfl
 ·intro i hi K hK;simp only [bN]
  (revert K;revert K;refine dO ?_;intro K hK K hK K hK)
  refine bH.part (fun h=> ?_) (fun h=> ?_)
  ·have hlt:i<n+1:=by replace h:=oE h;omega
   have eW:=ak (k:=i) (by omega);have eO:=jx (k:=0) (N:=n+1) hlt;have eA:=qi (f:=a) hlt;have eB:=qi (f:=b) hlt
   ((iterate 3 revert K);refine dO ?_;intro K hK K hK K hK)
   refine aQ (ι:=Nat) 19 (fun j=>[(7, .v (.int .i64 j))]) (fun j=>bN 0 (n+1) (n+1) (j4 a b i j)) (fun j=>n+1 - j) (fun j=>i<=j∧j<=n+1) i (by omega) ?_ ?_
   ·rw [IM];refine oz ?_;simp only [go_sem,di,true_or,or_true,true_and,and_true,hd]
   ·rintro j ⟨hj1,hj2⟩ K hK;simp only [bN]
    ((iterate 4 revert K);refine dO ?_;iterate 5 intro K hK)
    refine bH.part (fun h=> ?_) (fun h=> ?_)
    ·have hjt:j<n+1:=by replace h:=oE h;omega
     have eV:=ak (k:=j) (by omega);have eA2:=cR (g:=a i) hjt;have eB2:=cR (g:=b i) hjt;have hO: ∀x,(x :: aT (n+1) (j4 a b i j) (n+1))[j5 0 i]? = _:=fun x=>kD (k:=0) (x:=x) hlt;have eR:=cR (g:=j4 a b i j i) hjt;have eS:=fun x v=>ml (N:=n+1) (j:=j) (f:=j4 a b i j) (v:=v) (x:=x) hlt;have eU:=FA (a:=a) (b:=b) hj1
     cases ha:a i j
     ·rw [ha,Bool.false_or] at eU
      repeat (first|(with_reducible first|refine aA.up ?_|refine fun (K:AK) hK=> ?_|refine wE ?_|refine wK ?_|refine wF ?_|(refine hK _ ?_;clear hK K))|simp only [go_sem,eV,eO,eA,eB,eA2,eB2,ha,hO,jA,eR,eS,eU,Go.undef]|with_reducible refine wA ?_|clear hK K)
      refine az.mk (j+1) ⟨by omega,by omega⟩ (by omega) (oz ?_);simp only [go_sem,di,true_or,or_true,true_and,and_true,hd,er,AV.wf]
     ·rw [ha,Bool.true_or] at eU
      repeat (first|(with_reducible first|refine aA.up ?_|refine fun (K:AK) hK=> ?_|refine wE ?_|refine wK ?_|refine wF ?_|(refine hK _ ?_;clear hK K))|simp only [go_sem,eV,eO,eA,eB,eA2,eB2,ha,hO,jA,eR,eS,eU,Go.undef]|with_reducible refine wA ?_|clear hK K)
      refine az.mk (j+1) ⟨by omega,by omega⟩ (by omega) (oz ?_);simp only [go_sem,di,true_or,or_true,true_and,and_true,hd,er,AV.wf]
    ·have e1:j=n+1:=by replace h:=oE h;omega
     simp only [e1,Fy]
     ((iterate 5 revert K);refine kz eW ?_)
     refine az.mk (i+1) (by omega) (by omega) (oz ?_);simp only [go_sem,di,true_or,or_true,true_and,and_true,hd,er,AV.wf]
  ·have e1:i=n+1:=by replace h:=oE h;omega
   have eA:aT (n+1) (j4 a b (n+1) 0) (n+1)=aT (n+1) (Ob a b) (n+1):=e8 fun p q hp _=>by simp [j4,hp]
   simp only [e1]
   ((iterate 3 revert K);refine dO ?_)
   rw [eA];exact o9 _ _
def wb (N:Nat) (a b:Nat->Nat->Bool) (i j:Nat):Bool:=(List.range N).any fun k=>decide (i<=k∧k<=j)&&(a i k&&b k j)
theorem F2 {N:Nat} {a b:Nat->Nat->Bool} {i j:Nat}:wb N a b i j=true ↔ ∃k,k<N∧i<=k∧k<=j∧a i k=true∧b k j=true:=by
 simp only [wb,List.any_eq_true,List.mem_range,Vj,decide_eq_true_eq,and_assoc]
def jH (N:Nat) (a b:Nat->Nat->Bool) (i k j p q:Nat):Bool:=
 if p<i then wb N a b p q else if p=i then (List.range k).any (fun k'=>decide (i<=k'∧k'<=q)&&(a i k'&&b k' q))||(decide (k<=q∧q<j)&&(a i k&&b k q)) else false
theorem F0 {N:Nat} {a b:Nat->Nat->Bool} {i k j:Nat} (h:k<=j) (ha:a i k=true):lv (jH N a b i k j) i j (jH N a b i k j i j||b k j)=jH N a b i k (j+1):=by
 funext p q
 rw [lv]
 split
 ·rename_i e;obtain ⟨rfl,rfl⟩:=e;simp only [jH,if_neg (Nat.lt_irrefl _),if_true,ha,VO];have h1:decide (k<=q∧q<q)=false:=decide_eq_false (by omega);have h2:decide (k<=q∧q<q+1)=true:=decide_eq_true (by omega);rw [h1,h2];simp
 ·rename_i e;simp only [jH]
  split
  ·rfl
  ·split
   ·rename_i h1 h2;subst h2
    congr 2
    rw [decide_eq_decide]
    have:q≠j:=fun e'=>e ⟨rfl,e'⟩
    omega
   ·rfl
theorem OE {N:Nat} {a b:Nat->Nat->Bool} {i k:Nat} (hi:i<=k) (hk:a i k=false∨True):aT N (jH N a b i k (if a i k then N else k)) N=aT N (jH N a b i (k+1) (k+1)) N:=e8 fun p q hp hq=>by
 simp only [jH]
 split
 ·rfl
 ·split
  ·rw [List.range_succ,List.any_append,Bool.or_assoc]
   congr 1
   have h2:decide (k+1<=q∧q<k+1)=false:=decide_eq_false (by omega);rw [h2];simp only [List.any_cons,List.any_nil,Bool.or_false,Bool.false_and]
   cases hh:a i k
   ·simp
   ·have:(k<=q∧q<N)=(i<=k∧k<=q):=by apply propext;omega
    simp [this]
  ·rfl
theorem JK {N:Nat} {a b:Nat->Nat->Bool} {i:Nat}:aT N (jH N a b i N N) N=aT N (jH N a b (i+1) (i+1) (i+1)) N:=e8 fun p q hp hq=>by
 simp only [jH]
 by_cases h1:p<i
 ·rw [if_pos h1,if_pos (by omega)]
 ·rw [if_neg h1]
  by_cases h2:p=i
  ·subst h2;rw [if_pos rfl,if_pos (by omega)];have h3:decide (N<=q∧q<N)=false:=decide_eq_false (by omega);rw [h3,Bool.false_and,Bool.or_false];rfl
  ·rw [if_neg h2,if_neg (by omega)]
   by_cases h4:p=i+1
   ·rw [if_pos h4]
    have h5:(List.range (i+1)).any (fun k'=>decide (i+1<=k'∧k'<=q)&&(a (i+1) k'&&b k' q))=false:=by
     rw [List.any_eq_false];intro x hx
     have:=List.mem_range.1 hx
     have h6:decide (i+1<=x∧x<=q)=false:=decide_eq_false (by omega);rw [h6];simp
    have h7:decide (i+1<=q∧q<i+1)=false:=decide_eq_false (by omega);rw [h5,h7];simp
   ·rw [if_neg h4]
theorem OD {N:Nat} {a b:Nat->Nat->Bool}:(fun _ _=>false)=jH N a b 0 0 0:=by
 funext p q
 simp [jH]
theorem nY (n:Nat) (a b:Nat->Nat->Bool) (hn:n<=1000):ar Tryz.prog 167 [.aC 1 (j8 (n+1) a) (n+1), .aC 1 (j8 (n+1) b) (n+1)] (.aC 1 (j8 (n+1) (wb (n+1) a b)) (n+1)):=by
 have hd:decide (0<2 * (n+1)+1)=true:=decide_eq_true (by omega)
 have eN:IntKind.i64.wrap (((n+1:Nat):Int) - 1)=(n:Int):=by rw [cF (by omega) (by omega)];omega
 refine kf.OF ?_
 (refine kf.enter Tryz.func167 rfl (by kernel_rfl) (by kernel_rfl) rfl (by simp only [go_sem,aV,AV.wf,WA,VZ,VO,Go.undef]) (by simp only [go_sem,aV,AV.wf,a7,WA,VZ,VO,Go.undef]) ?_;simp only [Tryz.ntmps167,Tryz.results167,UD,Ux,Nat.reduceAdd,Nat.reduceSub,Wc,Wd,WE,Wt])
 (refine kz eN ?_;intro K hK K hK)
 refine ab.xL hn ?_;simp only [Ux,Wt]
 (revert K;revert K;refine dO ?_;intro K hK)
 refine aQ (ι:=Nat) 13 (fun i=>[(6, .v (.int .i64 i)),(7, .undef),(8, .undef)]) (fun i=>bN 0 (n+1) (n+1) (jH (n+1) a b i i i)) (fun i=>n+1 - i) (fun i=>i<=n+1) 0 (by omega) ?_ ?_
 ·rw [OD (N:=n+1) (a:=a) (b:=b)];refine oz ?_;simp only [go_sem,di,true_or,or_true,true_and,and_true,hd];exact .inr rfl
 ·intro i hi K hK;simp only [bN]
  (revert K;revert K;refine dO ?_;intro K hK K hK K hK)
  refine bH.part (fun h=> ?_) (fun h=> ?_)
  ·have hlt:i<n+1:=by replace h:=oE h;omega
   have eW:=ak (k:=i) (by omega);have eO:=jx (k:=0) (N:=n+1) hlt;have eA:=qi (f:=a) hlt
   ((iterate 3 revert K);refine dO ?_;intro K hK K hK K hK)
   refine aQ (ι:=Nat) 20 (fun k=>[(7, .v (.int .i64 k)),(8, .undef)]) (fun k=>bN 0 (n+1) (n+1) (jH (n+1) a b i k k)) (fun k=>n+1 - k) (fun k=>i<=k∧k<=n+1) i (by omega) ?_ ?_
   ·refine oz ?_;simp only [go_sem,di,true_or,or_true,true_and,and_true,hd]
   ·rintro k ⟨hk1,hk2⟩ K hK;simp only [bN]
    ((iterate 4 revert K);refine dO ?_;iterate 5 intro K hK)
    refine bH.part (fun h=> ?_) (fun h=> ?_)
    ·have hkt:k<n+1:=by replace h:=oE h;omega
     have eV:=ak (k:=k) (by omega);have eA2:=cR (g:=a i) hkt;have eB:=qi (f:=b) hkt;have eK:=OE (N:=n+1) (a:=a) (b:=b) hk1 (.inr trivial)
     ((iterate 5 revert K);refine dO ?_;iterate 5 intro K hK)
     refine aQ (ι:=Nat) 27 (fun j=>[(8, .v (.int .i64 j))]) (fun j=>bN 0 (n+1) (n+1) (jH (n+1) a b i k j)) (fun j=>n+1 - j) (fun j=>k<=j∧j<=n+1∧(a i k=false->j=k)) k ⟨by omega,by omega,fun _=>rfl⟩ ?_ ?_
     ·refine oz ?_;simp only [go_sem,di,true_or,or_true,true_and,and_true,hd]
     ·rintro j ⟨hj1,hj2,hj3⟩ K hK;simp only [bN]
      cases ha:a i k
      ·have hj:=hj3 ha;rw [ha] at eK;simp only [Bool.false_eq_true,if_false] at eK
       repeat (first|(with_reducible first|refine aA.up ?_|refine fun (K:AK) hK=> ?_|refine wE ?_|refine wK ?_|refine wF ?_|(refine hK _ ?_;clear hK K))|simp only [go_sem,eA,eA2,ha,Go.undef]|with_reducible refine wA ?_|clear hK K)
       simp only [hj,eK];refine kz eV ?_;refine az.mk (k+1) ⟨by omega,by omega⟩ (by omega) (oz ?_);simp only [go_sem,di,true_or,or_true,true_and,and_true,hd,er,AV.wf]
      ·rw [ha] at eK;simp only [if_true] at eK
       rcases Bool.eq_false_or_eq_true (decide ((j:Int)<((n+1:Nat):Int))) with hj|hj
       ·have hjt:j<n+1:=by replace hj:=oE hj;omega
        have eJ:=ak (k:=j) (by omega);have eB2:=cR (g:=b k) hjt;have hO: ∀x,(x :: aT (n+1) (jH (n+1) a b i k j) (n+1))[j5 0 i]? = _:=fun x=>kD (k:=0) (x:=x) hlt;have eR:=cR (g:=jH (n+1) a b i k j i) hjt;have eS:=fun x v=>ml (N:=n+1) (j:=j) (f:=jH (n+1) a b i k j) (v:=v) (x:=x) hlt;have eU:=F0 (N:=n+1) (b:=b) hj1 ha
        cases hv:jH (n+1) a b i k j i j
        ·rw [hv,Bool.false_or] at eU
         repeat (first|(with_reducible first|refine aA.up ?_|refine fun (K:AK) hK=> ?_|refine wE ?_|refine wK ?_|refine wF ?_|(refine hK _ ?_;clear hK K))|simp only [go_sem,eJ,eA,eA2,ha,hj,eO,eB,eB2,hO,hv,jA,eR,eS,eU,Go.undef]|with_reducible refine wA ?_|clear hK K)
         refine az.mk (j+1) ⟨by omega,by omega⟩ (by omega) (oz ?_);simp only [go_sem,di,true_or,or_true,true_and,and_true,hd,er,AV.wf]
        ·rw [hv,Bool.true_or] at eU
         repeat (first|(with_reducible first|refine aA.up ?_|refine fun (K:AK) hK=> ?_|refine wE ?_|refine wK ?_|refine wF ?_|(refine hK _ ?_;clear hK K))|simp only [go_sem,eJ,eA,eA2,ha,hj,eO,eB,eB2,hO,hv,jA,eR,eS,eU,Go.undef]|with_reducible refine wA ?_|clear hK K)
         refine az.mk (j+1) ⟨by omega,by omega⟩ (by omega) (oz ?_);simp only [go_sem,di,true_or,or_true,true_and,and_true,hd,er,AV.wf]
       ·have hje:j=n+1:=by replace hj:=oE hj;omega
        repeat (first|(with_reducible first|refine aA.up ?_|refine fun (K:AK) hK=> ?_|refine wE ?_|refine wK ?_|refine wF ?_|(refine hK _ ?_;clear hK K))|simp only [go_sem,eA,eA2,ha,hj,Go.undef]|with_reducible refine wA ?_|clear hK K)
        simp only [hje,eK];refine kz eV ?_;refine az.mk (k+1) ⟨by omega,by omega⟩ (by omega) (oz ?_);simp only [go_sem,di,true_or,or_true,true_and,and_true,hd,er,AV.wf]
    ·have e1:k=n+1:=by replace h:=oE h;omega
     simp only [e1,JK]
     ((iterate 5 revert K);refine kz eW ?_)
     refine az.mk (i+1) (by omega) (by omega) (oz ?_);simp only [go_sem,di,true_or,or_true,true_and,and_true,hd,er,AV.wf]
  ·have e1:i=n+1:=by replace h:=oE h;omega
   have eA:aT (n+1) (jH (n+1) a b (n+1) (n+1) (n+1)) (n+1)=aT (n+1) (wb (n+1) a b) (n+1):=e8 fun p q hp _=>by simp [jH,hp]
   simp only [e1]
   ((iterate 3 revert K);refine dO ?_)
   rw [eA];exact o9 _ _
open Classical in
noncomputable def gr (L:List ByteArray->Prop) (w:List ByteArray) (i j:Nat):Bool:=decide (Tk L w i j)
theorem dK {L:List ByteArray->Prop} {w:List ByteArray} {i j:Nat}:gr L w i j=true↔Tk L w i j:=by simp [gr]
theorem gS {L M:List ByteArray->Prop} {w:List ByteArray} (h: ∀u,u.length<=w.length->(L u↔M u)):gr L w=gr M w:=by
 funext i j
 rw [WL,dK,dK]
 have: ∀(h2:j<=w.length),(yK w i j).length<=w.length:=fun h2=>by rw [oS h2];omega
 constructor
 ·rintro ⟨h1,h2,h3⟩;exact ⟨h1,h2,(h _ (this h2)).1 h3⟩
 ·rintro ⟨h1,h2,h3⟩;exact ⟨h1,h2,(h _ (this h2)).2 h3⟩
theorem tg {N:Nat} {f g:Nat->Nat->Bool} (h: ∀i j,i<N->j<N->(f i j=true↔g i j=true)):j8 N f=j8 N g:=NY fun i j hi hj=>WL.2 (h i j hi hj)
theorem LA (w:List ByteArray):j8 (w.length+1) (fun _ _=>false)=j8 (w.length+1) (gr (fun _=>False) w):=tg fun i j hi hj=>by
 rw [dK];simp [Tk]
theorem th (w:List ByteArray):j8 (w.length+1) PV=j8 (w.length+1) (gr (fun u=>u=[]) w):=tg fun i j hi hj=>by
 rw [dK,PV,decide_eq_true_eq]
 constructor
 ·rintro rfl;exact ⟨Nat.le_refl _,by omega,G2 _ _⟩
 ·rintro ⟨h1,h2,h3⟩
  have:=oS (i:=i) h2
  rw [h3] at this;simp at this;omega
theorem IE (L M:List ByteArray->Prop) (w:List ByteArray):j8 (w.length+1) (Ob (gr L w) (gr M w))=j8 (w.length+1) (gr (fun u=>L u∨M u) w):=tg fun i j hi hj=>by
 rw [dK,Ob,Vj,Bool.or_eq_true,decide_eq_true_eq,dK,dK]
 constructor
 ·rintro ⟨h1,⟨_,h2,h3⟩|⟨_,h2,h3⟩⟩
  ·exact ⟨h1,h2, .inl h3⟩
  ·exact ⟨h1,h2, .inr h3⟩
 ·rintro ⟨h1,h2,h3|h3⟩
  ·exact ⟨h1, .inl ⟨h1,h2,h3⟩⟩
  ·exact ⟨h1, .inr ⟨h1,h2,h3⟩⟩
theorem xI (L M:List ByteArray->Prop) (w:List ByteArray):j8 (w.length+1) (wb (w.length+1) (gr L w) (gr M w))=j8 (w.length+1) (gr (fun u=> ∃a b,u=a++b∧L a∧M b) w):=tg fun i j hi hj=>by
 rw [dK,F2]
 constructor
 ·rintro ⟨k,_,h1,h2,h3,h4⟩;obtain ⟨_,_,h5⟩:=dK.1 h3;obtain ⟨_,h6,h7⟩:=dK.1 h4;exact ⟨by omega,h6,_,_,(C9 h1 h2).symm,h5,h7⟩
 ·rintro ⟨h1,h2,a,b,h3,h4,h5⟩;obtain ⟨k,k1,k2,rfl,rfl⟩:=G0 h1 h2 h3;exact ⟨k,by omega,k1,k2,dK.2 ⟨k1,by omega,h4⟩,dK.2 ⟨k2,h2,h5⟩⟩
def c9 (L:List ByteArray->Prop):Nat->List ByteArray->Prop
 | 0,u=>u=[]
 | k+1,u=>u=[]∨ ∃a b,u=a++b∧L a∧c9 L k b
theorem c9.nil {L:List ByteArray->Prop}: ∀k,c9 L k []
 | 0=>rfl
 | k+1=> .inl rfl
theorem c9.one {L:List ByteArray->Prop} {u:List ByteArray}:c9 L 1 u↔(u=[]∨L u):=by
 simp only [c9]
 constructor
 ·rintro (h|⟨a,b,rfl,h,rfl⟩)
  ·exact .inl h
  ·exact .inr (by simpa using h)
 ·rintro (h|h)
  ·exact .inl h
  ·exact .inr ⟨u,[],by simp,h,rfl⟩
theorem c9.mono {L:List ByteArray->Prop}: ∀ {k m:Nat} {u:List ByteArray},k<=m->c9 L k u->c9 L m u
 | 0,m,u,_,h=>by rw [c9] at h;subst h;exact .nil _
 | k+1,0,u,hk,_=>by omega
 | k+1,m+1,u,hk,h=>by
  rw [c9] at h ⊢
  rcases h with h|⟨a,b,e,h1,h2⟩
  ·exact .inl h
  ·exact .inr ⟨a,b,e,h1,c9.mono (by omega) h2⟩
theorem c9.add {L:List ByteArray->Prop}: ∀ {k m:Nat} {u:List ByteArray},c9 L (k+m) u ↔ ∃a b,u=a++b∧c9 L k a∧c9 L m b
 | 0,m,u=>by
  rw [Nat.zero_add]
  constructor
  ·intro h;exact ⟨[],u,rfl,rfl,h⟩
  ·rintro ⟨a,b,rfl,h1,h2⟩;rw [c9] at h1;subst h1;exact h2
 | k+1,m,u=>by
  rw [show k+1+m=(k+m)+1 by omega]
  constructor
  ·intro h;rw [c9] at h
   rcases h with rfl|⟨a,b,rfl,h1,h2⟩
   ·exact ⟨[],[],rfl, .nil _, .nil _⟩
   ·obtain ⟨c,d,rfl,h3,h4⟩:=c9.add.1 h2;exact ⟨a++c,d,by simp, .inr ⟨a,c,rfl,h1,h3⟩,h4⟩
  ·rintro ⟨a,b,rfl,h1,h2⟩;rw [c9] at h1
   rcases h1 with rfl|⟨c,d,rfl,h3,h4⟩
   ·exact c9.mono (by omega) h2
   ·rw [c9];exact .inr ⟨c,d++b,by simp,h3,c9.add.2 ⟨d,b,rfl,h4,h2⟩⟩
theorem c9.star {L:List ByteArray->Prop}: ∀ {k:Nat} {u:List ByteArray},c9 L k u->cW L u
 | 0,u,h=>by rw [c9] at h;subst h;exact .nil
 | k+1,u,h=>by
  rw [c9] at h
  rcases h with rfl|⟨a,b,rfl,h1,h2⟩
  ·exact .nil
  ·exact (cW.one h1).append h2.star
theorem cW.pow {L:List ByteArray->Prop} {u:List ByteArray} (h:cW L u):c9 L u.length u:=by
 induction h with
 | nil=>rfl
 | cons a b h1 h2 _ ih=>
  rw [List.length_append]
  have:0<a.length:=List.length_pos_iff.2 h1
  exact c9.mono (k:=b.length+1) (by omega) (.inr ⟨a,b,rfl,h2,ih⟩)
theorem I3 {L:List ByteArray->Prop} {k:Nat} {u:List ByteArray} (h:u.length<=k):c9 L k u↔cW L u:=⟨c9.star,fun hs=>c9.mono h hs.pow⟩
theorem AW {l:List Ex} {x:Ex} {u:List ByteArray}:gX (l++[x]) u↔gX l u∨Lg x u:=by
 rw [mI,mI]
 constructor
 ·rintro ⟨y,hy,h⟩
  rcases List.mem_append.1 hy with hy|hy
  ·exact .inl ⟨y,hy,h⟩
  ·rw [List.mem_singleton] at hy;subst hy;exact .inr h
 ·rintro (⟨y,hy,h⟩|h)
  ·exact ⟨y,List.mem_append_left _ hy,h⟩
  ·exact ⟨x,List.mem_append_right _ (List.mem_singleton.2 rfl),h⟩
theorem AX {l:List Ex} {x:Ex} {u:List ByteArray}:cP (l++[x]) u ↔ ∃a b,u=a++b∧cP l a∧Lg x b:=by
 rw [pP]
 constructor
 ·rintro ⟨a,b,rfl,h,k⟩;rw [cP] at k;obtain ⟨c,d,rfl,k1,k2⟩:=k;rw [cP] at k2;subst k2;exact ⟨a,c,by simp,h,k1⟩
 ·rintro ⟨a,b,rfl,h,k⟩;refine ⟨a,b,rfl,h, ?_⟩;rw [cP];exact ⟨b,[],by simp,k,by rw [cP]⟩
def iB (w:List ByteArray) (s:ByteArray) (m i j:Nat):Bool:=decide (j=i+1∧i<m)&&((w.getD i ⟨#[]⟩).toList==s.toList)
theorem Il (w:List ByteArray) (s:ByteArray):(fun _ _=>false)=iB w s 0:=by funext i j;simp [iB]
theorem zp (w:List ByteArray) (s:ByteArray) (m:Nat):lv (iB w s m) m (m+1) ((w.getD m ⟨#[]⟩).toList==s.toList)=iB w s (m+1):=by
 funext p q
 rw [lv,iB,iB]
 split
 ·rename_i h;obtain ⟨rfl,rfl⟩:=h;simp
 ·rename_i h
  congr 1
  rw [decide_eq_decide];omega
theorem NZ (w:List ByteArray) (s:ByteArray):j8 (w.length+1) (iB w s w.length)=j8 (w.length+1) (gr (fun u=>u=[s]) w):=tg fun i j hi hj=>by
 rw [dK,iB,Vj,decide_eq_true_eq,beq_iff_eq]
 constructor
 ·rintro ⟨⟨rfl,h1⟩,h2⟩;refine ⟨by omega,by omega, ?_⟩;have h3:w.getD i ⟨#[]⟩=s:=toList_inj.1 (by rw [h2];exact beq_self_eq_true _);rw [yK,show i+1 - i=1 by omega,VB h1,List.take_succ_cons,List.take_zero, <- h3,Vq,UM h1];rfl
 ·rintro ⟨h1,h2,h3⟩;have h4:=oS (i:=i) h2;rw [h3] at h4;simp at h4
  have hj:j=i+1:=by omega
  subst hj
  have h5:i<w.length:=by omega
  rw [yK,show i+1 - i=1 by omega,VB h5,List.take_succ_cons,List.take_zero] at h3;refine ⟨⟨rfl,h5⟩, ?_⟩;rw [Vq,UM h5];simp only [List.cons.injEq,and_true] at h3;rw [h3];rfl
end
end Go.Proofs.YtfflpdekojlnmaaGreatDoor
