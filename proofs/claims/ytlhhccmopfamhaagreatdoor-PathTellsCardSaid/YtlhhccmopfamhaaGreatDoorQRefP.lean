/- texts of one claim, one behind the other. -/
import Derived.Test.YtlhhccmopfamhaaGreatDoorQGo
import Derived.Test.YtlhhccmopfamhaaGreatDoorQEdgW
import Derived.Test.YtlhhccmopfamhaaGreatDoorQDfaQ
import Derived.Test.YtlhhccmopfamhaaGreatDoorQMat
import Derived.Test.YtlhhccmopfamhaaGreatDoorQExprC
import Derived.WideKeyEntry
import Derived.Shelf.SlMaps.Equal
import Derived.Test.YtlhhccmopfamhaaGreatDoorQValue
set_option linter.unusedSimpArgs false
set_option linter.unusedVariables false
set_option maxRecDepth 100000
set_option maxHeartbeats 16000000
open Bool renaming and_true -> afo, true_or -> ahc, false_or -> ahd, false_eq_true -> afC, and_self -> agA
open List renaming map_cons -> aga, length_append -> aew, length_singleton -> agK, mem_cons_self -> afr, mem_cons_of_mem -> ae7, mem_cons -> afZ, mem_map -> ag2, getElem?_eq_some_iff -> aeu, getElem?_append_left -> aet, getElem?_set_ne -> aeH, getElem?_set_self -> aeG, map_append -> agY, map_nil -> agE, length_set -> aha, mem_or_eq_of_mem_set -> ahb, mem_append -> agd, append_assoc -> agI, mem_singleton -> age, getElem?_append_right -> aeK, getElem?_eq_getElem -> aeC, length_cons -> afa, length_nil -> aeq, cons_append -> afK, nil_append -> afJ, nodup_nil -> afb, drop_eq_nil_of_le -> aeV, take_succ_eq_append_getElem -> agO, take_of_length_le -> agS, foldl_cons -> afO, not_mem_nil -> agc, replicate_succ -> afU, replicate_zero -> afV, getElem?_cons_zero -> afD, getElem?_cons_succ -> afE, mem_of_getElem? -> aeQ, foldl_nil -> afP, take_length -> agP, append_nil -> agy, pairwise_cons -> agi, getElem_mem -> afy, mem_iff_getElem -> ahk
open Nat renaming zero_le -> aex, lt_or_ge -> aes, mul_le_mul -> ahj, le_refl -> aen, lt_add_one -> agB, zero_lt_one -> agC
open Option renaming map_some -> aeO, map_none -> ahi
open Array renaming toList_modify -> ahg
open Go.ChangeMaps renaming modify_eq_set -> ahh
open Go.WideElems renaming findIdx_arr -> ahe, findIdx_born -> ahf
open Option.some renaming injEq -> aez
namespace Go.Proofs.YtlhhccmopfamhaaGreatDoor
open Go.RowKit
open Go.Proofs.Tryz
def D4(l:List ((ByteArray×Id)×Nat)):List C5:=l.map (λp=>[.v (.string p.1.1),.vec p.2 p.1.2.length])
def GU(v:ByteArray):List ((ByteArray×Id)×Nat)->Option ((ByteArray×Id)×Nat)
 | []=>none
 |p::l=>if p.1.1=v then some p else GU v l
theorem Qh(v:ByteArray):∀l,o5 .string (.string v) (D4 l)=some ((GU v l).map λp=> .vec p.2 p.1.2.length)
 | []=>rfl
 |p::l=>by
  rw[D4,aga,o5,GU];simp only[dH,if_true,fx,BC]
  by_cases e:p.1.1=v
  ·rw[if_pos e,decide_eq_true e.symm];rfl
  ·rw[if_neg e,decide_eq_false (Ne.symm e)];exact Qh v l
def D5(e:bH)(id:Nat):List ((ByteArray×Id)×Nat)->List ((ByteArray×Id)×Nat)
 | []=>[((e.bP,[e]),id)]
 |p::l=>if p.1.1=e.bP then((p.1.1,p.1.2++[e]),p.2)::l else p::D5 e id l
theorem Dp(e:bH)(id:Nat):∀l,(D5 e id l).map Prod.fst=Cy e (l.map Prod.fst)
 | []=>rfl
 |p::l=>by
  rw[D5,aga,Cy]
  by_cases h:p.1.1=e.bP
  ·rw[if_pos h,if_pos h];rfl
  ·rw[if_neg h,if_neg h,aga,Dp e id l]
theorem oh{e:bH}(id:Nat):∀{l},GU e.bP l=none->nz .string (.string e.bP) (.vec id 1) (D4 l)=some (D4 (D5 e id l))∧D5 e id l=l++[((e.bP,[e]),id)]
 | [],_=>⟨rfl,rfl⟩
 |p::l,h=>by
  rw[GU]at h
  split at h
  ·cases h
  ·rename_i hn;obtain⟨u,q⟩:=oh id h;rw[D4,aga,nz,D5,if_neg hn];simp only[dH,if_true,fx,BC,decide_eq_false (Ne.symm hn),Bool.false_eq_true,if_false];refine⟨?_,by rw[q];rfl⟩;show Option.map _ (nz .string (.string e.bP) (.vec id 1) (D4 l))=_;rw[u];rfl
theorem yU{e:bH}(id:Nat){q:(ByteArray×Id)×Nat}:∀{l},GU e.bP l=some q->nz .string (.string e.bP) (.vec q.2 (q.1.2.length+1)) (D4 l)=some (D4 (D5 e id l))
 | [],h=>by cases h
 |p::l,h=>by
  rw[GU]at h;rw[D4,aga,nz,D5];simp only[dH,if_true,fx,BC]
  split at h
  ·rename_i hp;cases h;rw[decide_eq_true hp.symm,if_pos rfl,if_pos hp];simp only[D4,aga,aew,agK,hp]
  ·rename_i hn;rw[decide_eq_false (Ne.symm hn),if_neg hn];simp only[Bool.false_eq_true,if_false];show Option.map _ (nz .string (.string e.bP) _ (D4 l))=_;rw[yU id h];rfl
theorem n3{v:ByteArray}{q:(ByteArray×Id)×Nat}:∀{l},GU v l=some q->q∈l
 | [],h=>by cases h
 |p::l,h=>by
  rw[GU]at h
  split at h
  ·cases h;exact afr
  ·exact ae7 _ (n3 h)
theorem Kt{e:bH}(id:Nat){q:(ByteArray×Id)×Nat}:∀{l},GU e.bP l=some q->(D5 e id l).map Prod.snd=l.map Prod.snd
 | [],h=>by cases h
 |p::l,h=>by
  rw[GU]at h;rw[D5]
  split at h
  ·rename_i hp;rw[if_pos hp];rfl
  ·rename_i hn;rw[if_neg hn,aga,aga,Kt id h]
theorem tE{e:bH}(id:Nat){q:(ByteArray×Id)×Nat}:∀{l},(l.map Prod.snd).Nodup->GU e.bP l=some q->∀p∈D5 e id l,p=((q.1.1,q.1.2++[e]),q.2)∨(p∈l∧p.2≠q.2)
 | [],_,h=>by cases h
 |a::l,hn,h=>by
  rw[GU]at h;rw[D5];rw[aga,List.nodup_cons]at hn;intro p u
  split at h
  ·rename_i ha;cases h;rw[if_pos ha]at u
   rcases afZ.1 u with rfl|u
   ·exact .inl rfl
   ·exact .inr ⟨ae7 _ u,λe=>hn.1 (e ▸ ag2.2 ⟨p,u,rfl⟩)⟩
  ·rename_i ha;rw[if_neg ha]at u
   rcases afZ.1 u with rfl|u
   ·exact .inr ⟨afr,λe=>hn.1 (e ▸ ag2.2 ⟨q,n3 h,rfl⟩)⟩
   ·rcases tE id hn.2 h p u with k|⟨H,A⟩
    ·exact .inl k
    ·exact .inr ⟨ae7 _ H,A⟩
structure Sl(r wv:aa)(o:AC)(l:List ((ByteArray×Id)×Nat)):Prop where
 r:o[1]?=some (some r)
 m:o[2]?=some (some ⟨64,0,false,D4 l⟩)
 w:o[3]?=some (some wv)
 nd:(l.map Prod.snd).Nodup
 lo:∀p∈l,4<=p.2
 row:∀p∈l,o[p.2]?=some (some ⟨35,5,true,p.1.2.map aR⟩)
 wf:∀ob,some ob∈o->bD o.length ob.rows=true
theorem Js{n:Nat}:∀{l:List ((ByteArray×Id)×Nat)},(∀p∈l,p.2<n)->bD n (D4 l)=true
 | [],_=>rfl
 |p::l,h=>by
  have H:=h p afr;have A:=Js (l:=l) λq u=>h q (ae7 _ u);simp only[D4,aga,bD,aU,AV.wf,decide_eq_true H,afo,Bool.true_and];exact A
theorem xy{n:Nat}:∀{o:AC},(∀ob,some ob∈o->bD n ob.rows=true)->zQ n o o
 | [],_=>trivial
 |x::o,h=>⟨.inr ⟨rfl,λob e=>h ob (e ▸ afr)⟩,xy λob q=>h ob (ae7 _ q)⟩
theorem Sl.lt{r wv:aa}{o:AC}{l:List ((ByteArray×Id)×Nat)}(h:Sl r wv o l):3<o.length:=(aeu.1 h.w).1
theorem Sl.nZ{r wv:aa}{o:AC}{l:List ((ByteArray×Id)×Nat)}{e:bH}{q:(ByteArray×Id)×Nat}{b:AC}(id:Nat)(W:∀ob,some ob∈b->∀n,bD n ob.rows=true)(h:Sl r wv o l)(H:GU e.bP l=some q) :
  Sl r wv (((o++b).set q.2 (some ⟨35,5,true,q.1.2.map aR++[aR e]⟩)).set 2 (some ⟨64,0,false,D4 (D5 e id l)⟩)) (D5 e id l):=by
 have hl:=h.lt;have V:=h.lo q (n3 H);have U:=h.row q (n3 H);have hql:=(aeu.1 U).1
 have ap:∀{k:Nat}{x:Option aa},o[k]?=some x->(o++b)[k]?=some x:=λ{k x}Y=>by rw[aet (aeu.1 Y).1];exact Y
 refine⟨?_,?_,?_,by rw[Kt id H];exact h.nd,λp O=>?_,λp O=>?_,λob u=>?_⟩
 ·rw[aeH zd,aeH zd];exact ap h.r
 ·rw[aeG ahy]
 ·rw[aeH zd,aeH zd];exact ap h.w
 ·rcases tE id h.nd H p O with rfl|⟨A,_⟩
  ·exact V
  ·exact h.lo p A
 ·rcases tE id h.nd H p O with rfl|⟨A,k2⟩
  ·rw[aeH zd,aeG ahy];simp only[agY,aga,agE]
  ·have:=h.lo p A
   rw[aeH zd,aeH (Ne.symm k2)];exact ap (h.row p A)
 ·simp only[aha,aew]
  rcases ahb u with u|u
  ·rcases ahb u with u|u
   ·rcases agd.1 u with u|u
    ·exact zF zd _ (h.wf ob u)
    ·exact W ob u _
   ·cases u
    have:=df (o.length+b.length) (q.1.2++[e])
    simpa only[agY,aga,agE]using this
  ·cases u;refine Js λp O=>?_
   rcases tE id h.nd H p O with rfl|⟨A,_⟩
   ·simp only;omega
   ·have:=(aeu.1 (h.row p A)).1;omega
theorem Sl.new{r wv:aa}{o:AC}{l:List ((ByteArray×Id)×Nat)}{e:bH}{b:AC}(O:∀ob,some ob∈b->∀n,bD n ob.rows=true)(h:Sl r wv o l)(W:GU e.bP l=none) :
  Sl r wv ((o++b++[some (⟨35,5,true,[aR e]⟩:aa)]).set 2 (some ⟨64,0,false,D4 (D5 e (o.length+b.length) l)⟩)) (D5 e (o.length+b.length) l):=by
 have hl:=h.lt
 have ap:∀{k:Nat}{x:Option aa},o[k]?=some x->(o++b++[some (⟨35,5,true,[aR e]⟩:aa)])[k]?=some x:=λ{k x}U=>by
  have H:=(aeu.1 U).1;rw[agI,aet H];exact U
 have A:=(oh (e:=e) (o.length+b.length) W).2;have V:∀p∈l,p.2<o.length:=λp u=>(aeu.1 (h.row p u)).1
 refine⟨?_,?_,?_,?_,λp u=>?_,λp u=>?_,λob q=>?_⟩
 ·rw[aeH zd];exact ap h.r
 ·rw[aeG ahy]
 ·rw[aeH zd];exact ap h.w
 ·rw[A,agY];refine List.nodup_append.2 ⟨h.nd,zk,λa ha c Y e1=>?_⟩;obtain⟨p,u,rfl⟩:=ag2.1 ha
  have:=V p u
  simp at Y;omega
 ·rw[A]at u
  rcases agd.1 u with u|u
  ·exact h.lo p u
  ·rw[age.1 u];simp only;omega
 ·rw[A]at u
  rcases agd.1 u with u|u
  ·have:=h.lo p u
   rw[aeH zd];exact ap (h.row p u)
  ·rw[age.1 u];simp only;rw[aeH zd,aeK zk];simp
 ·simp only[aha,aew,agK]
  rcases ahb q with q|q
  ·rcases agd.1 q with q|q
   ·rcases agd.1 q with q|q
    ·exact zF zd _ (h.wf ob q)
    ·exact O ob q _
   ·rw[age]at q;cases q;exact df _ [e]
  ·cases q;refine Js λp u=>?_;rw[A]at u
   rcases agd.1 u with u|u
   ·have:=V p u;omega
   ·rw[age.1 u];simp only;omega
theorem bB.mpR{o:AC}{id:Nat}{ob:aa}(ho:o[id]?=some (some ob))(hv:ob.fe=false)(hz:ob.z=0){rows':List C5}(hlen:rows'.length=ob.rows.length)
  (hr:∀(i:Nat)row row',ob.rows[i]?=some row->rows'[i]?=some row'->xu o row row'):bB o (.vec id 0) (.mp rows'):=λD nu w x u V=>by
 have hx:x=nu id 0:=by
  cases V with
  |vec=>rfl
 subst hx
 have get:∀(i:Nat)row',rows'[i]?=some row'->∃row,ob.rows[i]?=some row∧row'.length=row.length∧∀(j:Nat)H,row'[j]?=some H->∃c,row[j]?=some c∧bB o c H:=λi row' h=>by
  have hi:i<ob.rows.length:=by rw[<-hlen];exact(aeu.1 h).1
  obtain⟨h1,h2⟩:=(hr i _ row' (aeC hi) h).at';refine⟨_,aeC hi,h1.symm,λj H hc=>?_⟩
  have U:j<ob.rows[i].length:=by rw[h1];exact(aeu.1 hc).1
  exact⟨_,aeC U,h2 j _ H (aeC U) hc⟩
 rcases u.obj id ob ho with⟨e1,_⟩|⟨g,cur,hb⟩|⟨g,es,cl,q⟩
 ·rw[e1]at hv;cases hv
 ·have:=hb.z;omega
 ·rw[q.wC]
  refine .mp _ g es cl ⟨(Array.getElem?_eq_some_iff.1 q.e9).1,br _ _,q.oR⟩ q.e9 (by rw[q.sz,hlen]) (λi row' h=>?_) q.born q.qQ (λi j row' H e k1 k2 k3=>?_)
  ·obtain⟨row,O,Y,_⟩:=get i row' h;rw[Y];exact q.row i row O
  ·obtain⟨row,O,Y,r3⟩:=get i row' k1;obtain⟨c,A,W⟩:=r3 j H k2;have hl:=q.row i row O;have U:=(aeu.1 A).1
   match j,U,A with
   |0,_,A=>exact W D nu w _ u (q.key i row c e O A k3)
   |1,_,A=>exact W D nu w _ u (q.val i row c e O A k3)
   |j+2,U,_=>omega
theorem bB.agg{o:AC}{l m:C5}(h:xu o l m):bB o (.agg l) (.agg m):=λD nu w x q u=>by
 obtain⟨V,U⟩:=h.at'
 cases u with
 |agg cs xs O H A=>
  have r:=h.ras q ⟨O,H⟩;exact .agg _ _ r.len r.at' A
def tF(A:oZ)(E:Id):AV:=if fb E=0 then .ck [.agg [.vp (c7 A),.mp (gj (CD E))],.v (.int .i64 0)]else .ck [.agg [.v (.pointer none),.v (.map none)],.v (.int .i64 (fb E))]
theorem RT(A:oZ)(E:Id):(tF A E).wf 0=true:=by
 unfold tF
 split
 ·simp only[AV.wf,aU,gk,ky,Bool.and_self]
 ·rfl
theorem Qi(x:Ex)(A:oZ)(E:Id)(C:aj prog 49 [.agg (aN x)] (.ck [.vp (c7 A),.v (.int .i64 0)]))(hok:∀e∈E,xr e)(hl:E.length<=16777216):aj prog 27 [.agg (aN x),.aB 5 (E.map aR) E.length] (tF A E):=by
 have hA:aU 0 [.agg (aN x),.aB 5 (E.map aR) E.length]=true:=by simp only[aU,AV.wf,fp,df,Bool.and_self]
 have hF:=RT A E;generalize hR:tF A E=R at *;rw[aA]at C⊢;rw[aA]at hA
 (refine aj.iA func27 rfl zo zo rfl hA hF ?_;simp only[ntmps27,results27,afa,aeq,Nat.reduceAdd,Nat.reduceSub,List.replicate_succ,List.replicate_zero,afK,afJ])
 (refine ae ?_;intro K hK K hK)
 (revert K;revert K;refine aK C ?_;intro K hK)
 refine aO (ι:=AC×Nat×List ((ByteArray×Id)×Nat)) 2 (λx=>[(4,.ptr 1 0 2 0 0),(5,.v (.int .i64 0)),(8,.ptr 3 0 2 0 0),(24,.aB 5 (E.map aR) E.length),(25,.v (.int .i64 (E.length:Nat))),(26,.v (.int .i64 (x.2.1:Nat)))]) (λx=>x.1) (λx=>E.length-x.2.1)
  (λx=>Sl ⟨66,2,false,[[.v (.pointer none),.v (.map none)]]⟩ ⟨66,2,false,[[.vp (c7 A),.vec 2 0]]⟩ x.1 x.2.2∧x.2.1<=E.length∧(E.drop x.2.1).foldl (λG e=>Cy e G) (x.2.2.map Prod.fst)=CD E∧fb (E.drop x.2.1)=fb E∧∀p∈x.2.2,p.1.2.length<=x.2.1)
  ([none,some ⟨66,2,false,[[.v (.pointer none),.v (.map none)]]⟩,some ⟨64,0,false,[]⟩,some ⟨66,2,false,[[.vp (c7 A),.vec 2 0]]⟩],0,[]) ⟨⟨rfl,rfl,rfl,afb,λp h=>(by cases h),λp h=>(by cases h),?_⟩,aex _,rfl,rfl,λp h=>(by cases h)⟩ ?_ ?_
 ·intro ob H;simp only[afZ,Option.some.injEq,List.not_mem_nil,or_false,reduceCtorEq,false_or]at H
  rcases H with rfl|rfl|rfl
  ·rfl
  ·rfl
  ·simp only[bD,aU,AV.wf,gk,afo];rfl
 ·refine ab (bJ ?_) ar ar
  all_goals first|rfl
 ·rintro⟨o,i,l⟩ ⟨U,hi,Y,W,hle⟩ K hK;simp only at U hi Y W hle⊢;have hlt:=U.lt;have ow:∀b:AC,(o++b)[3]? = _:=λb=>(aet hlt).trans U.w;have om:∀b:AC,(o++b)[2]? = _:=λb=>(aet zd).trans U.m;have orr:∀b:AC,(o++b)[1]? = _:=λb=>(aet zd).trans U.r
  have oe:∀(b:Option aa)t,(o++b::t)[o.length]?=some b:=λb t=>by rw[aeK (Nat.le_refl _),Nat.sub_self];rfl
  have s23:∀(L:AC)x,(L.set 2 x)[3]?=L[3]? :=λL x=>aeH zs;have s2l:∀(L:AC)x,(L.set 2 x)[o.length]?=L[o.length]? :=λL x=>aeH zd
  have ot:∀a b:Option aa,(o++[a]).set o.length b=o++[b]:=λa b=>by rw[List.set_append_right _ _ (Nat.le_refl _),Nat.sub_self];rfl
  have eN:(E.map aR).length=E.length:=zk
  have iw:=U.w;have im:=U.m;have ir:=U.r
  rcases aes i E.length with h|h
  ·have d1:decide ((i:Int)<(E.length:Int))=true:=b0;have e1:=qt h;have CK:=S7 _ (hok _ (List.getElem_mem h));have hq:=EK h;rw[hq]at W;rw[List.drop_eq_getElem_cons h,List.foldl_cons]at Y;have ws:=ag (k:=i) zd;generalize E[i]=e at *;simp only[aR]at CK
   (revert K;revert K;refine ak (qq d1 e1 eN oe ot) ?_;iterate 6 intro K hK)
   refine ai.one CK ?_
   by_cases h0:nL e=0
   ·have z0:(nL e !=0)=false:=by simp[h0]
    have og:=Qh e.bP l
    cases u:GU e.bP l with
    |none=>
     rw[u]at og;simp only[Option.map_none]at og;have os:=(oh (e:=e) (o.length+1) u).1
     ((iterate 6 revert K);refine jf 11 z0 ?_;intro K hK K hK K hK)
     refine bE [11,12] [(1,1999),(3,1999)] za zo ?_
     ((iterate 3 revert K);refine ak (L7 oe ow om og os s23 s2l) ?_)
     refine ak ws ?_;have O:=U.new (e:=e) (b:=[some ⟨35,5,false,[aR e]⟩]) (λob H n=>by rw[age]at H;cases H;exact df n [e]) u;simp only[aR,agI,afK,afJ,afa,aeq,Nat.zero_add]at O;rw[<-Dp e (o.length+1)]at Y;rw[if_neg (by simp[h0])]at W
     refine aw.mk (_,i+1,D5 e (o.length+1) l) ⟨O,h,Y,W,λp V=>(by
      rw[(oh (e:=e) (o.length+1) u).2]at V
      rcases agd.1 V with V|V
      ·have:=hle p V;simp only;omega
      ·rw[age.1 V];simp)⟩ (show E.length-(i+1)<E.length-i by omega) (ab ?_ (xy O.wf) (aex _))
     have h1:1<o.length:=zd
     simp only[go_sem,iV,true_or,or_true,true_and,and_true,aha,aew,afa,aeq];exact⟨.inr (b0),.inr (b0)⟩
    |some q=>
     rw[u]at og;simp only[aeO]at og;have os:=yU (e:=e) 0 u;have hqr:=U.row q (n3 u);have hq4:=U.lo q (n3 u);have hql:=(aeu.1 hqr).1;have hqle:=hle q (n3 u);have oq:∀b:AC,(o++b)[q.2]? = _:=λb=>(aet hql).trans hqr;have sq3:∀(L:AC)x,(L.set q.2 x)[3]?=L[3]? :=λL x=>aeH zd;have sq2:∀(L:AC)x,(L.set q.2 x)[2]?=L[2]? :=λL x=>aeH zd;have sql:∀(L:AC)x,(L.set q.2 x)[o.length]?=L[o.length]? :=λL x=>aeH zd
     ((iterate 6 revert K);refine jf 11 z0 ?_;intro K hK K hK K hK)
     refine bE [11,12] [(1,1999),(3,1999)] za zo ?_
     repeat(first|(with_reducible first|refine bG.up ?_|refineλ(K:AK)hK=>?_|refine au zs ?_|(refine hK _ ?_;clear hK K))|simp only[go_sem,oe,ow,om,og,os,s23,s2l,oq,sq3,sq2,sql]|with_reducible refine wA ?_|(refine aP rfl rfl ?_)|(refine aE rfl ?_)|clear hK K)
     refine ak ws ?_;have O:=U.nZ (e:=e) (b:=[some ⟨35,5,false,[aR e]⟩]) 0 (λob H n=>by rw[age]at H;cases H;exact df n [e]) u;simp only[aR,agI,afK,afJ,afa,aeq,Nat.zero_add]at O;rw[<-Dp e 0]at Y;rw[if_neg (by simp[h0])]at W
     refine aw.mk (_,i+1,D5 e 0 l) ⟨O,h,Y,W,λp V=>(by
      rcases tE 0 U.nd u p V with rfl|⟨k1,_⟩
      ·simp only[aew,agK];omega
      ·have:=hle p k1;simp only;omega)⟩ (show E.length-(i+1)<E.length-i by omega) (ab ?_ (xy O.wf) (aex _))
     simp only[go_sem,iV,true_or,or_true,true_and,and_true,aha,aew,afa,aeq];exact⟨.inr (b0),.inr (b0)⟩
   ·have z0:(nL e !=0)=true:=by simp[h0]
    have os1:∀a b:Option aa,((o++[a]).set 1 b)[1]?=some b:=λa b=>aeG ahy
    ((iterate 6 revert K);refine ak (oT z0 oe ow om orr os1) ?_)
    rw[if_pos h0]at W;rw[<-hR,tF,if_neg (by rw[<-W];exact h0), <- W];exact bB.ck ⟨bB.agg ⟨bB.v _,bB.v _,trivial⟩,bB.v _,trivial⟩
  ·have d1:decide ((i:Int)<(E.length:Int))=false:=bi;have os:∀b:Option aa,(o.set 1 b)[1]?=some b:=λb=>aeG zd
   (revert K;revert K;refine ak (qq d1 iw im ir os) ?_)
   have he0:fb E=0:=by rw[<-W,aeV h];rfl
   rw[aeV h,List.foldl_nil]at Y;rw[<-hR,tF,if_pos he0, <- Y];have sm:∀x,(o.set 1 x)[2]?=o[2]? :=λx=>aeH zs;refine bB.ck ⟨bB.agg ⟨bB.of 3 (p:=(AV.vp (c7 A)).wf 0=true) (by rw[jF]<;>simp) (by rw[AV.wf];exact gk _ _),bB.mpR ((sm _).trans im) rfl rfl (by simp[gj,D4]) (λk row row' k1 k2=>?_),trivial⟩,bB.v _,trivial⟩;simp only[D4,gj,List.map_map,List.getElem?_map]at k1 k2
   cases hk:l[k]? with
   |none=>rw[hk]at k1;cases k1
   |some p=>
    rw[hk]at k1 k2;cases k1;cases k2;have V:=List.mem_of_getElem? hk;have h4:=U.lo p V;have hr:=U.row p V;refine⟨bB.v _,bB.sg (ob:=⟨35,5,true,p.1.2.map aR⟩) ((aeH zd).trans hr) rfl zk (df _ _),trivial⟩
def lL(x:Ex)(A:oZ)(E:Id):PL:=pT (ic A) (λs=>bM A s) (cH x) A.rows.length E
noncomputable def iQ(x:Ex)(E:Id):Int:=match fZ x (ct x)with
 | .inl _=>fb E
 | .inr e=>e
noncomputable def gY(x:Ex)(E:Id):PL:=match fZ x (ct x)with
 | .inl A=>if fb E=0 then lL x A E else []
 | .inr _=>[]
theorem uz{x:Ex}{e:Int}(h:fZ x (ct x)=.inr e):e≠0:=by
 grind[fZ]
theorem Uo{x:Ex}{E:Id}(h:iQ x E=0):∃A,fZ x (ct x)=.inl A∧fb E=0∧gY x E=lL x A E:=by
 unfold iQ at h;unfold gY
 cases q:fZ x (ct x)with
 |inl A=>
  grind
 |inr e=>
  grind[uz]
theorem Jg{A:oZ}(ok:AOk A):∀s l t,ic A s l=some t->t<A.rows.length:=λs l t h=>by
 unfold ic jt at h
 split at h
 ·rename_i hs
  have q:s<A.rows.length:=zd
  have e:((s:Nat):Int).toNat=s:=zk
  rw[e]at h;exact(ok.row _ (bK q)).2 _ (lH h)
 ·cases h
theorem xZ{E:Id}(h:fb E=0):∀e∈E,e.time<=Ar:=λe q=>(Az (uF h e q)).2
def adY(cut:Int)(E:Id):Id:=E.filter (λe=>decide (cut<e.time))
inductive Wlk(E:Id)(f:ByteArray):ByteArray->B0->Int->Prop where
 |one (e:bH):e∈E->e.bP=f->Wlk E f e.to [e.label] (min Ar e.time)
 |more (e:bH) (w:B0) (τ:Int):Wlk E f e.bP w τ->e∈E->Wlk E f e.to (w++[e.label]) (min τ e.time)
def aJ(p:K2×Int):C5:=[.v (.string p.1.1),.v (.string p.1.2),.v (.int .i64 p.2)]
theorem bt(n:Nat)(l:PL):bD n (l.map aJ)=true:=bw _ (λ_=>rfl) l
attribute [go_sem] bt
theorem LC{l:PL}(hn:(l.map Prod.fst).Nodup){p:K2×Int}(q:p∈cz l):bU l p.1=some p.2:=(j4 hn).2 ((cL l).mem_iff.1 q)
theorem Kw(l:PL)(hn:(l.map Prod.fst).Nodup)(hl:l.length<=1000000):bR prog 32 [.mp (cg bI l)] [] (.vec 2 (cz l).length) [none,none,some ⟨37,3,true,(cz l).map aJ⟩]:=by
 have eW:∀n,bD n (cg bI l)=true:=λn=>gn (λ_=>rfl) l;have KS:=Wp l;have SQ:=PC l;have SF:=DI (gf:=99) (caps:=[.vp [.mp (cg bI l)]]) l hn hl (by rw[gq,List.map_map];exact SQ) (by simp only[aU,AV.wf,eW,afo]);have hlen:(cz l).length=l.length:=(cL l).length_eq
 have O:aU 0 [.mp (cg bI l)]=true:=by simp only[aU,AV.wf,eW,afo]
 have eWK:∀n,bD n ((cz l).map λp=>bI p.1)=true:=λn=>bw _ (λ_=>rfl) _
 have eL:((cz l).map λp=>bI p.1).length=l.length:=by simp[hlen]
 rw[hlen];refine gF func32 ntmps32 results32 ?_
 (refine bj ?_;intro K hK K hK K hK)
 ((iterate 3 revert K);refine lD KS ?_;intro K hK K hK K hK)
 refine ai.fr [] SF afb rfl ?_ ?_ (λk ob h=>by simp at h) ?_
 ·simp only[bV,AV.ba,bn _ _ (eW 0)]
 ·simp only[aU,AV.wf,eW,afo]
 simp only[fj,aga,agE,aeO,Option.map_none,aa.ba,bn _ _ (eWK 0),afJ,List.append_nil]
 ((iterate 3 revert K);refine bj ?_;intro K hK)
 refine gu (ι:=Nat) 2 37 3 rfl zs 11 (λi=>[(2,.vec 2 i),(5,.undef),(11,.v (.int .i64 i))]) (λi=>[none,some ⟨74,2,true,(cz l).map λp=>bI p.1⟩,some ⟨37,3,true,((cz l).take i).map aJ⟩]) (λi=>l.length-i) (λi=>i<=l.length) 0 (aex _) ?_ ?_
 ·refine ab (bJ ?_) (bJ ?_) ar
  all_goals first|exact⟨eW _,eW _,eW _,rfl⟩|exact eWK _
 ·rintro i hi K hK
  rcases aes i l.length with h|h
  ·have d1:decide ((i:Int)<(l.length:Int))=true:=b0
   have q:i<(cz l).length:=zd
   have H:((cz l).map λp=>bI p.1).getD i []=[.v (.string (cz l)[i].1.1),.v (.string (cz l)[i].1.2)]:=by rw[getD_map (λp:K2×Int=>bI p.1) (cz l) i [] q];rfl
   have g1:=mL Py (cz l)[i].1 l;rw[LC hn (List.getElem_mem q)]at g1;have g3:=Py (cz l)[i].1 (cz l)[i].1;rw[decide_eq_true rfl]at g3;simp only[bI,aeO]at g1 g3
   have tt:lS prog 74=some [.s,.s]:=zo
   have ws:=ag (k:=i) zd
   have eM:((cz l).take (i+1)).map aJ=((cz l).take i).map aJ++[[.v (.string (cz l)[i].1.1),.v (.string (cz l)[i].1.2),.v (.int .i64 (cz l)[i].2)]]:=by rw[agO q,agY];rfl
   have eT:(((cz l).take i).map aJ).length=i:=ahy
   have u:=bt 3 ((cz l).take (i+1))
   (revert K;revert K;refine aM (Y1 d1 H eL g1 g3 tt eT ws) ?_)
   refine aw.mk (i+1) h zd ?_;rw[eM]at u⊢;refine ab (bJ ?_) (bJ ?_) ar
   all_goals first|exact eW _|exact eWK _
  ·have e0:i=l.length:=zd
   have d1:decide ((l.length:Int)<(l.length:Int))=false:=bi;have A:(cz l).take l.length=cz l:=List.take_of_length_le zd;simp only[e0,A]
   (revert K;revert K;refine aM d1 ?_)
   exact⟨ek,ek,ek⟩
theorem Uk(l:PL)(hn:(l.map Prod.fst).Nodup)(hl:l.length<=1000000):aj prog 32 [.mp (cg bI l)] (.aB 3 ((cz l).map aJ) (cz l).length):=
 .ofG (Kw l hn hl) (by simp only[aU,AV.wf,gn (enc:=bI) (λ_=>rfl) l,afo]) (by simp only[AV.wf,bt]) (by
  rintro r o ⟨rfl,rfl⟩
  exact bB.sg (ob:=⟨37,3,true,(cz l).map aJ⟩) rfl rfl zk (bt _ _))
theorem ai.Uv{id:Nat}{l:PL}{k:K2}{τ:Int}{o:AC}{K:AV->AC->Prop}(u:o[id]?=some (some ⟨70,0,false,cg bI l⟩))
  (h:K (.v (.bool (dW l k τ))) (o.set id (some ⟨70,0,false,cg bI (gb l k τ)⟩))):ai prog 29 [.vec id 0,.agg (bI k),.v (.int .i64 τ)] o K:=by
 have eW:∀n l,bD n (cg bI l)=true:=λn l=>gn (λ_=>rfl) l
 refine ai.fr [id] (WT l k τ) zk ?_ rfl rfl ?_ ?_
 ·simp only[aga,agE,u,aeO,aa.ba,bn _ _ (eW 0 _)]
 ·intro j ob q
  match j,q with
  |0,q=>cases q;exact eW _ _
  |j+1,q=>simp at q
 ·simp only[fj,AV.ba,aeO,aa.ba,bn _ _ (eW 0 _)];have hl:id<o.length:=(aeu.1 u).1;rw[agE,List.append_nil];exact h
theorem BJ(E:Id){i:Nat}(h:i<E.length):vB (E.take (i+1))=gb (gb (vB (E.take i)) (E[i].bP,E[i].bP) E[i].time) (E[i].to,E[i].to) E[i].time:=by
 rw[vB,vB,agO h,iU,List.flatMap_append,qA];rfl
theorem Ey{K:Type} [DecidableEq K]:∀(l:List (K×Int))(k:K)(t:Int),(gP l k t).length<=l.length+1
 | [],k,t=>by simp[gP]
 |p::l,k,t=>by
  rw[gP]
  split
  ·simp
  ·have:=Ey l k t;simp only[afa];omega
theorem xN{K:Type} [DecidableEq K](l:List (K×Int))(k:K)(t:Int):(gb l k t).length<=l.length+1:=by
 rw[gb];split
 ·exact Ey l k t
 ·omega
theorem lW(E:Id):∀i,i<=E.length->(vB (E.take i)).length<=2*i
 |0,_=>by simp[vB,iU,fI]
 |i+1,h=>by
  rw[BJ E zd];have A:=lW E i zd;have u:=xN (vB (E.take i)) (E[i].bP,E[i].bP) E[i].time;have q:=xN (gb (vB (E.take i)) (E[i].bP,E[i].bP) E[i].time) (E[i].to,E[i].to) E[i].time;omega
theorem Dq(E:Id)(hl:E.length<=1000):aj prog 16 [.aB 5 (E.map aR) E.length] (.aB 3 ((aI E).map aJ) (aI E).length):=by
 have eW:∀n l,bD n (cg bI l)=true:=λn l=>gn (λ_=>rfl) l
 have eN:(E.map aR).length=E.length:=zk
 have q:=lW E E.length (Nat.le_refl _);rw[List.take_length]at q;have PR:=Uk (vB E) (jr _ [] afb).1 zd;refine gE func16 ntmps16 results16 ?_
 (refine ae ?_;intro K hK)
 refine aO (ι:=Nat) 9 (λi=>[(5,.undef),(9,.v (.int .i64 i))]) (λi=>[some ⟨70,0,false,cg bI (vB (E.take i))⟩]) (λi=>E.length-i) (λi=>i<=E.length) 0 (aex _) ?_ ?_
 ·refine ab (bJ ?_) (bJ ?_) ar
  all_goals first|rfl|exact⟨rfl,rfl⟩
 ·rintro i hi K hK
  rcases aes i E.length with h|h
  ·have d1:decide ((i:Int)<(E.length:Int))=true:=b0;have H:=qt h;have ws:=ag (k:=i) zd;have u:=BJ E h;generalize E[i]=e at *
   (revert K;revert K;refine ak (nq d1 H eN) ?_;iterate 5 intro K hK)
   refine ai.Uv (k:=(e.bP,e.bP)) rfl ?_
   ((iterate 5 revert K);refine ae ?_;iterate 4 intro K hK)
   refine ai.Uv (k:=(e.to,e.to)) rfl ?_
   ((iterate 4 revert K);refine ak ws ?_)
   refine aw.mk (i+1) h zd ?_;rw[u];refine ab ar (bJ ?_) ar
   all_goals first|exact eW _ _|exact df _ _
  ·have e0:i=E.length:=zd
   have d1:decide ((E.length:Int)<(E.length:Int))=false:=bi;have A:E.take E.length=E:=List.take_length;simp only[e0,A]
   (revert K;revert K;refine jf 8 d1 ?_;intro K hK)
   refine bl (zB 3 0 rfl rfl rfl rfl) zo ?_;simp only[List.set_cons_zero,List.set_cons_succ]
   (revert K;refine ae ?_;intro K hK K hK)
   (revert K;revert K;refine aK PR ?_)
   refine iG.of 40 rfl ?_;simp only[go_sem,bt]
mutual
def qX:Ex->Nat->Nat
 | .mk _ _ l,deep=>if 60<deep then 61 else qL l (deep+1) 1
def qL:IO->Nat->Nat->Nat
 | [],_,n=>n
 |x::xs,d,n=>if n<=60 then qL xs d (n+qX x d)else n
end
theorem KG:∀(l:IO)(d n k:Nat)(h:k<l.length),qL (l.take k) d n<=60->qL (l.take (k+1)) d n=qL (l.take k) d n+qX l[k] d
 | [],_,_,_,h,_=>by simp at h
 |x::xs,d,n,0,_,hn=>by
  simp only[List.take_zero,qL]at hn⊢;simp[qL,hn]
 |x::xs,d,n,k+1,h,hn=>by
  simp only[List.take_succ_cons,qL,List.getElem_cons_succ]at hn⊢
  by_cases q:n<=60
  ·rw[if_pos q]at hn⊢;rw[if_pos q];exact KG xs d _ k (by simpa using h) hn
  ·rw[if_neg q]at hn;omega
theorem KF:∀(l:IO)(d n k:Nat),60<qL (l.take k) d n->qL l d n=qL (l.take k) d n
 | [],_,_,_,_=>zk
 |x::xs,d,n,0,hn=>by
  simp only[List.take_zero,qL]at hn⊢;rw[if_neg zd]
 |x::xs,d,n,k+1,hn=>by
  simp only[List.take_succ_cons,qL]at hn⊢
  by_cases q:n<=60
  ·rw[if_pos q]at hn⊢;rw[if_pos q];exact KF xs d _ k hn
  ·rw[if_neg q,if_neg q]
mutual
theorem QF:∀(x:Ex)(d:Nat),d<=61->1<=qX x d∧qX x d<=61+60*(61-d)
 | .mk _ _ l,d,h=>by
  rw[qX]
  split
  ·omega
  ·have:=IZ l (d+1) 1 zd;omega
theorem IZ:∀(l:IO)(d n:Nat),d<=61->n<=qL l d n∧qL l d n<=max n (121+60*(61-d))
 | [],d,n,h=>by rw[qL];omega
 |x::xs,d,n,h=>by
  rw[qL]
  split
  ·have u:=QF x d h;have q:=IZ xs d (n+qX x d) h;omega
  ·omega
end
theorem LS(x:Ex):∀d:Nat,d<=61->aj prog 26 [.agg (aN x),.v (.int .i64 d)] (.v (.int .i64 (qX x d:Nat))):=by
 induction x using Ex.ind with
 |h k s l ih=>
  intro d hd61;simp only[aA,qX,Ex.kind,Ex.label,Ex.kids]
  by_cases A:60<d
  ·rw[if_pos A];have u:decide (60<(d:Int))=true:=b0;refine gE func26 ntmps26 results26 ?_;refine ak u ?_
   rfl
  ·rw[if_neg A];have u:decide (60<(d:Int))=false:=bi;have eD:=ag (k:=d) zd;refine gE func26 ntmps26 results26 ?_
   (refine ak u ?_;intro K hK)
   refine bg (ι:=Nat) 9 (λi=>[(5,.v (.int .i64 (qL (l.take i) (d+1) 1:Nat))),(6,.v (.int .i64 i))]) (λi=>l.length-i) (λi=>i<=l.length∧i+1<=qL (l.take i) (d+1) 1) 0 ⟨aex _,Nat.le_refl _⟩ ?_ ?_
   ·refine ab (bJ ?_) ar ar;exact⟨rfl,rfl⟩
   rintro i ⟨hi,V⟩ K hK;have Y:=IZ (l.take i) (d+1) 1 zd
   (revert K;revert K;refine ae ?_;iterate 5 intro K hK)
   refine cn.part (λh=>?_) (λh=>?_)
   ·have q:i<l.length:=by replace h:=cq h;omega
    by_cases O:qL (l.take i) (d+1) 1<=60
    ·have eW:=ag (k:=i) zd;have eG:=getD_map aN l i [] q;have HX:=ih l[i] (List.getElem_mem q) (d+1) zd;have eT:=KG l (d+1) 1 i q O;have U:=QF l[i] (d+1) zd;have H:decide (((qL (l.take i) (d+1) 1:Nat):Int)<=60)=true:=b0
     have eS:IntKind.i64.wrap (((qL (l.take i) (d+1) 1:Nat):Int)+((qX l[i] (d+1):Nat):Int))=((qL (l.take (i+1)) (d+1) 1:Nat):Int):=by rw[bT zd zd,eT];omega
     simp only[aA]at HX eG
     ((iterate 5 revert K);refine ak (qq H h eG @aA eD) ?_;iterate 4 intro K hK)
     ((iterate 4 revert K);refine Pg HX eS eW ?_)
     exact aw.mk (i+1) ⟨zd,zd⟩ zd (by exact ab ar ar ar)
    ·have eT:=KF l (d+1) 1 i zd;have H:decide (((qL (l.take i) (d+1) 1:Nat):Int)<=60)=false:=bi
     ((iterate 5 revert K);refine fc H h ?_)
     rw[eT]
   ·have W:l.take i=l:=by rw[show i=l.length by replace h:=cq h;omega,List.take_length]
    ((iterate 5 revert K);exact Vl W h)
def Pm(E:Id):Bool:=(E.take 30).any (λe=>decide (30<e.props.length))
def Mc(x:Ex)(E:Id):Bool:=Pm E||(decide (60<qX x 0)||decide (30<E.length))
theorem TA{x:Ex}{E:Id}(h:Mc x E=false):E.length<=30∧∀e∈E,e.props.length<=30:=by
 simp only[Mc,Bool.or_eq_false_iff,decide_eq_false_iff_not]at h;obtain⟨q, -,A⟩:=h;refine⟨zd,λe u=>?_⟩;rw[Pm,agS zd]at q
 have:=List.any_eq_false.1 q e u
 simpa using this
theorem Md(x:Ex)(E:Id)(hl:E.length<=140737488355328):aj prog 8 [.agg (aN x),.aB 5 (E.map aR) E.length] (.v (.bool (Mc x E))):=by
 have SZ:=LS x 0 zd;rw[Mc];simp only[aA]at SZ⊢;refine gE func8 ntmps8 results8 ?_
 (refine ae ?_;intro K hK)
 refine bg (ι:=Nat) 5 (λi=>[(5,.v (.int .i64 i))]) (λi=>30-i) (λi=>i<=E.length∧i<=30∧Pm (E.take i)=false) 0 ⟨aex _,aex _,rfl⟩ ?_ ?_
 ·refine ab (bJ ?_) ar ar
  all_goals first|rfl
 ·rintro i ⟨hi,h30,Y⟩ K hK
  by_cases h:i<E.length∧i<30
  ·obtain⟨U,h2⟩:=h;have d1:decide ((i:Int)<(E.length:Int))=true:=b0;have d2:decide ((i:Int)<30)=true:=b0;have W:=getD_map aR E i [] U;simp only[aR]at W;have ws:=ag (k:=i) zd
   have hs:Pm (E.take (i+1))=(Pm (E.take i)||decide (30<E[i].props.length)):=by
    have t1:(E.take (i+1)).take 30=E.take (i+1):=agS (by rw[List.length_take];omega);have t2:(E.take i).take 30=E.take i:=agS (by rw[List.length_take];omega);rw[Pm,Pm,t1,t2,List.take_succ_eq_append_getElem U,List.any_append];simp
   by_cases hb:30<E[i].props.length
   ·have d3:decide (30<(E[i].props.length:Int))=true:=b0
    have O:Pm E=true:=by
     rw[Pm,List.any_eq_true];exact⟨E[i],by rw[List.mem_take_iff_getElem];exact⟨i,zd,rfl⟩,decide_eq_true hb⟩
    rw[O,ahc]
    (revert K;revert K;exact vT (pG d1 d2 W d3))
   ·have d3:decide (30<(E[i].props.length:Int))=false:=bi
    (revert K;revert K;refine ak (qq d1 d2 W d3 ws) ?_)
    exact aw.mk (i+1) ⟨U,h2,by rw[hs,Y,decide_eq_false hb];rfl⟩ zd (by exact ab ar ar ar)
  ·have H:Pm E=false:=by
    have:E.take 30=(E.take i).take 30:=by
     rw[List.take_take]
     rcases Nat.lt_or_ge i 30 with q|q
     ·rw[agS (show E.length<=30 by omega),agS zd]
     ·rw[show min 30 i=30 by omega]
    rw[Pm,this];exact Y
   by_cases U:i<E.length
   ·have d1:decide ((i:Int)<(E.length:Int))=true:=b0;have d2:decide ((i:Int)<30)=false:=bi
    (revert K;revert K;refine fc d1 d2 ?_;intro K hK K hK)
    refine ai.one SZ ?_
    by_cases A:60<qX x 0
    ·have u:decide (60<((qX x 0:Nat):Int))=true:=b0
     (revert K;revert K;refine ak u ?_)
     rw[decide_eq_true A,ahc,Bool.or_true]
    ·have u:decide (60<((qX x 0:Nat):Int))=false:=bi
     have V:decide (30<(E.length:Int))=decide (30<E.length):=by rw[decide_eq_decide];omega
     (revert K;revert K;refine fc u V ?_)
     rw[decide_eq_false A,ahd,H,ahd]
   ·have d1:decide ((i:Int)<(E.length:Int))=false:=bi
    (revert K;revert K;refine ak d1 ?_;intro K hK K hK)
    refine ai.one SZ ?_
    by_cases A:60<qX x 0
    ·have u:decide (60<((qX x 0:Nat):Int))=true:=b0
     (revert K;revert K;refine ak u ?_)
     rw[decide_eq_true A,ahc,Bool.or_true]
    ·have u:decide (60<((qX x 0:Nat):Int))=false:=bi
     have V:decide (30<(E.length:Int))=decide (30<E.length):=by rw[decide_eq_decide];omega
     (revert K;revert K;refine fc u V ?_)
     rw[decide_eq_false A,ahd,H,ahd]
theorem pY(L:PL)(hl:L.length<=1000000):aj prog 15 [.aB 3 (L.map aJ) L.length,.aB 3 (L.map aJ) L.length] (.v (.bool true)):=by
 have eN:(L.map aJ).length=L.length:=zk
 refine gE func15 ntmps15 results15 ?_
 (refine bj ?_;intro K hK)
 refine bg (ι:=Nat) 5 (λi=>[(5,.v (.int .i64 i))]) (λi=>L.length-i) (λi=>i<=L.length) 0 (aex _) ?_ ?_
 ·refine ab (bJ ?_) ar ar
  all_goals first|rfl|exact bt _ _
 ·rintro i hi K hK
  rcases Nat.lt_or_ge i L.length with h|h
  ·have d1:decide ((i:Int)<(L.length:Int))=true:=b0;have q:=getD_map aJ L i [] h;simp only[aJ]at q;have ws:=ag (k:=i) zd;generalize L[i]=p at *
   repeat(first|(with_reducible first|refine bG.up ?_|refineλ(K:AK)hK=>?_|refine wD ?_|(refine hK _ ?_;clear hK K))|simp only[go_sem,d1,q,eN,beq_self_eq_true,bne_self_eq_false,Bool.not_true,ws]|with_reducible refine wA ?_|clear hK K)
   exact aw.mk (i+1) h zd (by exact ab ar ar ar;all_goals exact bt _ _)
  ·have d1:decide ((i:Int)<(L.length:Int))=false:=bi
   repeat(first|(with_reducible first|refine bG.up ?_|refineλ(K:AK)hK=>?_|refine wD ?_|(refine hK _ ?_;clear hK K))|simp only[go_sem,d1,beq_self_eq_true]|with_reducible refine wA ?_|clear hK K)
theorem WC(k:Int)(rows:List C5)(n:Nat)(u:bD 0 rows=true):aj prog 22 [.v (.int .i64 k),.aB 3 rows n] (.agg [.v (.int .i64 k),.v (.string ⟨#[]⟩),.aB 3 rows n]):=by
 (refine aj.enter func22 rfl zo zo rfl (by simp only[go_sem,aU,AV.wf,Bool.and_self,Bool.and_true,Bool.true_and,u]) (by simp only[go_sem,aU,AV.wf,bz,Bool.and_self,Bool.and_true,Bool.true_and,u]) ?_;simp only[ntmps22,results22,List.length_cons,List.length_nil,Nat.reduceAdd,Nat.reduceSub,List.replicate_succ,List.replicate_zero,List.cons_append,List.nil_append])
 repeat' (first|(with_reducible first|refine bG.up ?_|refineλ(K:AK)hK=>?_|(refine hK _ ?_;clear hK K))|simp only[go_sem]|clear hK K|(with_reducible refine ai.one zf ?_)|(with_reducible refine b8.one zf ?_)|(refine cn.part (λq=>?_) (λq=>?_)<;>simp only[q,go_sem])|(refine cn.part (λq=>?_) (λq=>?_))|(with_reducible refine oO.mk ?_ ?_))
 refine iG.of 40 rfl ?_;simp only[go_sem,u]
theorem Ms(s:ByteArray):aj prog 21 [.v (.string s)] (.agg [.v (.int .i64 1),.v (.string s),.v (.slice none 0 0)]):=by
 refine gE func21 ntmps21 results21 ?_
 repeat' (first|(with_reducible first|refine bG.up ?_|refineλ(K:AK)hK=>?_|(refine hK _ ?_;clear hK K))|simp only[go_sem]|clear hK K|(with_reducible refine ai.one zf ?_)|(with_reducible refine b8.one zf ?_)|(refine cn.part (λq=>?_) (λq=>?_)<;>simp only[q,go_sem])|(refine cn.part (λq=>?_) (λq=>?_))|(with_reducible refine oO.mk ?_ ?_))
 (refine iG.of 40 rfl ?_;simp only[go_sem])
theorem Gi(a b l:ByteArray)(t:Int):aj prog 20 [.v (.string a),.v (.string b),.v (.string l),.v (.int .i64 t)] (.agg [.v (.string a),.v (.string b),.v (.string l),.v (.int .i64 t),.v (.slice none 0 0)]):=by
 refine gE func20 ntmps20 results20 ?_
 repeat' (first|(with_reducible first|refine bG.up ?_|refineλ(K:AK)hK=>?_|(refine hK _ ?_;clear hK K))|simp only[go_sem]|clear hK K|(with_reducible refine ai.one zf ?_)|(with_reducible refine b8.one zf ?_)|(refine cn.part (λq=>?_) (λq=>?_)<;>simp only[q,go_sem])|(refine cn.part (λq=>?_) (λq=>?_))|(with_reducible refine oO.mk ?_ ?_))
 (refine iG.of 40 rfl ?_;simp only[go_sem])
section
variable {P:Program}
def G6(l:GE)(d:Nat->Bool):Prop:=∀j i,i<l.length->d j=true->bb l.toArray j i=true->d i=true
def nP(d:Nat->Bool)(k:Nat):Nat->Bool:=λj=>if j=k then true else d j
def WA(P:Program)(l:GE)(val:Nat->Value)(W:(Nat->Bool)->World)(Q:Act->World->Prop):GE->Nat->((Nat->Value)->Act)->Prop
 | [],k,A=>∀x d,(∀i,i<k->x i=val i∧d i=true)->Q (A x) (W d)
 |o::rest,k,A=>(∀x d,G6 l d->d k=false->(∀i,i<l.length->bb l.toArray k i=true->x i=val i∧d i=true)->Region.wanted o (yielded l.toArray (A x).tmps)=true ∧
   ((execOp (A x).eval o).run P (W d)=.ok (.value (val k)) (W (nP d k))∨((execOp (A x).eval o).run P (W d)=.ok .skip (W (nP d k))∧val k=Go.undef)))∧WA P l val W Q rest (k+1) (λx=>(A x).put o.dst (x k))
def EG(l:GE)(W:(Nat->Bool)->World):pq:=
 ⟨{d:Nat->Bool // G6 l d},λg=>W g.1,λg g'=>∀j,g.1 j=true->g'.1 j=true,λ_ _ h=>h,λ_ _ _ h k j hj=>k j (h j hj),λj g=>g.1 j=false⟩
def Rg(l:GE)(W:(Nat->Bool)->World)(val:Nat->Value)(i:Nat):jY (EG l W):=⟨λv g=>v=val i∧g.1 i=true,λv g g' hR h=>⟨h.1,hR i h.2⟩⟩
theorem atD{l:GE}{W:(Nat->Bool)->World}{val:Nat->Value}{i:Nat}(h:i<l.length):Ch ((List.range l.length).map (Rg l W val)) i=Rg l W val i:=by
 simp[Ch,List.getD_eq_getElem?_getD,h]
theorem Qd{l:GE}{val:Nat->Value}{W:(Nat->Bool)->World}{Q:Act->World->Prop}(g0:(EG l W).G):∀(rest:GE)(k:Nat)(A:(Nat->Value)->Act),l.drop k=rest->k<=l.length->WA P l val W Q rest k A->MG P l.toArray ((List.range l.length).map (Rg l W val)) g0 Q rest k A
 | [],k,A,hl,hk,h=>λx g _ U=>h x g.1 (λi hi=>by
   have:=U i hi
   rw[atD zd]at this
   exact this)
 |o::rest,k,A,hl,hk,h=>by
  have V:k<l.length:=by grind
  refine⟨λx g _ U hp=>?_,Qd g0 rest (k+1) _ (by rw[<-List.drop_drop,hl];rfl) zd h.2⟩
  have hd:∀i,i<l.length->bb l.toArray k i=true->x i=val i∧g.1 i=true:=λi hi u=>by
   have:=U i u
   rw[atD hi]at this;exact this
  obtain⟨hw,H⟩:=h.1 x g.1 g.2 hp hd
  have q:G6 l (nP g.1 k):=λj i hi O u=>by
   simp only[nP]at O⊢
   split
   ·rfl
   ·split at O
    ·grind
    ·exact g.2 j i hi O u
  have hR:(EG l W).R g ⟨nP g.1 k,q⟩:=λj O=>by
   grind[nP]
  have hP:∀i,i≠k->(EG l W).pre i g->(EG l W).pre i ⟨nP g.1 k,q⟩:=λi hi hh=>by
   show nP g.1 k i=false;simp only[nP,if_neg hi];exact hh
  have Y:nP g.1 k k=true:=by simp[nP]
  refine .inl ⟨hw,?_⟩;rw[atD V]
  rcases H with H|⟨H,hv⟩
  ·have e:(execOp (A x).eval o).run P ((EG l W).wd g)=.ok (.value (val k)) (W (nP g.1 k)):=H;rw[e];exact⟨⟨nP g.1 k,q⟩,rfl,hR,hP,rfl,Y⟩
  ·have e:(execOp (A x).eval o).run P ((EG l W).wd g)=.ok .skip (W (nP g.1 k)):=H;rw[e];exact⟨⟨nP g.1 k,q⟩,rfl,hR,hP,hv.symm,Y⟩
theorem SC{Q:Exit->Act->World->Prop}{a:Act}{w:World}{l:GE}(u:tN l.toArray=true)(val:Nat->Value)(W:(Nat->Bool)->World)(q:W (λ_=>false)=w.drew)(h:WA P l val W (Q .normal) l 0 (λ_=>a)) :
  wpAny P .any l.toArray Q l.toArray.size (Array.replicate l.toArray.size false) a w.drew:=
 jG (N:=EG l W) _ u ⟨λ_=>false,λ_ _ _ h=>by cases h⟩ q (λ_=>rfl) (Qd _ l 0 _ rfl (aex _) h)
variable {D:Nat->Prop} {nu:EQ} {o:AC} {w:World}
theorem xB{ks:Nm}{k:C5}{x:AV}(q:lB ks k k=some true):∀{rows:List C5},kK ks k rows=some none->kK ks k (rows++[[.agg k,x]])=some (some x)
 | [],_=>by rw[List.nil_append,kK,q]
 |row::l,h=>by
  unfold kK at h
  split at h
  ·cases ‹row::l=[]›
  ·rename_i A y u e1;cases e1;rw[List.cons_append,kK]
   split at h
   ·cases h
   ·exact xB q h
   ·cases h
  ·cases h
theorem xE{ks:Nm}{k:C5}{x:AV}:∀{rows:List C5},kK ks k rows=some none->l8 ks k x rows=some (rows++[[.agg k,x]])
 | [],_=>rfl
 |row::l,h=>by
  unfold kK at h
  split at h
  ·cases ‹row::l=[]›
  ·rename_i u y q e1;cases e1;rw[l8]
   split at h
   ·cases h
   ·rw[xE h];rfl
   ·cases h
  ·cases h
theorem Q6{g:Nat}{es:Array MapEntry}{cl:Nat}(q:w.heap[g]?=some (.map es cl)):{w with heap:=w.heap.setIfInBounds g (.map es cl)}=w:=by
 have:w.heap.setIfInBounds g (.map es cl)=w.heap:=by
  grind
 rw[this]
theorem Hv{es:Array MapEntry}(h:∀(i j:Nat)e q,es[i]?=some e->es[j]?=some q->i<j->e.born<q.born):(es.toList.map (·.born)).Nodup:=by
 rw[List.nodup_iff_pairwise_ne,List.pairwise_map,List.pairwise_iff_getElem];intro i j hi u hij
 have:=h i j es.toList[i] es.toList[j] (by grind) (by grind) hij
 omega
theorem Y7{T kt et:TypeId}{ks:Nm}{id:Nat}{ob:aa}{k:C5}{kx vx zx nx:Value}{rows':List C5}{m:Value}(h:RO D nu o w)(hm:RA D nu o w (.vec id 0) m)(hk:RA D nu o w (.agg k) kx)(Y:P.underlying T=some (.map kt et))(O:lS P kt=some ks)(ho:o[id]?=some (some ob))(hV:ob.fe=false)(hz:ob.z=0)(hw:lB ks k k=some true)
  (hl:mr P et ks ob.rows k false=some (.v vx))(hzx:vK P et=some (.v zx))(hs:l8 ks k (.v nx) ob.rows=some rows') :
  ∃(W w2:World)(st:Value),(Instr.lookup T m kx false).run P w=.ok vx w∧(Instr.mapEntry T m kx).run P w=.ok (.tuple #[vx,st]) W∧(Instr.lookup T m kx false).run P W=.ok vx W∧(Instr.entryStore T m st nx).run P W=.ok () w2 ∧
   cf nu o w nu (o.set id (some {ob with rows:=rows'})) w2∧RO D nu (o.set id (some {ob with rows:=rows'})) w2:=by
 have hmk:sx P T o (.vec id 0)=some (kt,et,id,ob):=by grind[sx]
 obtain⟨w',hrun,hmono,hro⟩:=kE h hm hk (.v nx) hmk O hV hz hw hs;have hup:=λx rows1(hs1:l8 ks k (.v x) ob.rows=some rows1)=>kE h hm hk (.v x) hmk O hV hz hw hs1;obtain⟨g,es,cl,_,_,rfl,q⟩:=rq h hm hmk hV hz
 have hsz:es.toList.length=ob.rows.length:=by simpa using q.sz
 have H:=λem=>HY (P:=P) O hk hw em;have u:=q.e9;have hgl:=(Array.getElem?_eq_some_iff.1 u).1;have hidl:=(List.getElem?_eq_some_iff.1 ho).1;obtain⟨lv,V,hlx⟩:=rp Y O hk u q.sz q.key q.val hl;rw[hlx.di]at V;have hnd:=Hv q.qQ;unfold mr at hl;rw[if_pos hw]at hl;have hkey:∀(j:Nat)row c e,ob.rows[j]?=some row->row[0]?=some c->es.toList[j]?=some e->RA D nu o w c e.key:=λj row c e q1 q2 q3=>q.key j row c e q1 q2 (by grind)
 rcases ru O hk ob.rows es.toList 0 rows' hsz hkey hs with⟨rfl,hf⟩|⟨j,e,rfl,hf,q5,q6,q7⟩
 ·have hq:kK ks k ob.rows=some none:=by
   grind[rn]
  rw[hq]at hl;simp only[hzx,Option.some.injEq,if_false,Bool.false_eq_true,AV.v.injEq]at hl;subst hl;obtain⟨zv,hzr,hzv⟩:=nA (D:=D) (nu:=nu) (o:=o) (w:=w) hzx;rw[hzv.di]at hzr;obtain⟨W,hr1,hm1,hro1⟩:=hup zx _ (xE hq)
  have e1:W={w with heap:=w.heap.setIfInBounds g (.map (es.push ⟨kx,zx,cl⟩) (cl+1))}:=by
   simp[Instr.mapUpdate,run_underlying Y,MapKept.run_getObj_map u,H,cv O,hf,MapKept.run_setObj_map _ u,Result.andThen]at hr1
   grind
  have e2:w'={w with heap:=w.heap.setIfInBounds g (.map (es.push ⟨kx,nx,cl⟩) (cl+1))}:=by
   simp[Instr.mapUpdate,run_underlying Y,MapKept.run_getObj_map u,H,cv O,hf,MapKept.run_setObj_map _ u,Result.andThen]at hrun
   grind
  have hb1:W.heap[g]?=some (.map (es.push ⟨kx,zx,cl⟩) (cl+1)):=by grind
  refine⟨W,w',goInt cl,V,?_,?_,?_,hmono,hro⟩
  ·rw[e1];simp[Instr.mapEntry,run_underlying Y,MapKept.run_getObj_map u,H,cv O,hf,hzr,MapKept.run_setObj_map _ u,Result.andThen]
  ·have hl1:uw P T (o.set id (some {ob with rows:=ob.rows++[[.agg k,.v zx]]})) (.vec id 0) k false=some (ob.fe=false∧ob.z=0,.v zx):=by
    simp only[uw,Y,O,List.getElem?_set_self hidl,mr,if_pos hw,xB hw hq]
    rfl
   obtain⟨v,h1,h2⟩:=vI hro1 (hm.mono hm1 (λ_ _ h=>h)) (hk.mono hm1 (λ_ _ h=>h)) hl1 ⟨hV,hz⟩;rw[h2.di]at h1;exact h1
  ·have A:(es.push ⟨kx,zx,cl⟩).findIdx? (λe=>((e.born:Nat):Int)==((cl:Nat):Int))=some es.size:=by
    rw[ahe];refine ahf (l:=(es.push ⟨kx,zx,cl⟩).toList) (j:=es.size) (e0:=⟨kx,zx,cl⟩) ?_ zk;simp only[Array.toList_push,List.map_append,List.map_cons,List.map_nil];refine List.nodup_append.2 ⟨hnd,zk,λa ha c hc e1=>?_⟩;simp only[List.mem_singleton]at hc;obtain⟨x,hx,rfl⟩:=List.mem_map.1 ha;obtain⟨i,hi⟩:=List.getElem?_of_mem hx
    have:=q.born i x (by grind)
    omega
   have U:(es.push ⟨kx,zx,cl⟩).modify es.size (λe=>{e with val:=nx})=es.push ⟨kx,nx,cl⟩:=by
    grind
   rw[e2];simp[Instr.entryStore,MapKept.run_getObj_map hb1,asInt,asIntOf,goInt,A,U,MapKept.run_setObj_map _ hb1,Result.andThen];rw[e1];simp
 ·have hj:es[j]?=some e:=by grind
  rw[Nat.zero_add]at hf
  have hvx:vx=e.val:=by
   simp[Instr.lookup,run_underlying Y,MapKept.run_getObj_map u,H,cv O,hf,Result.andThen]at V
   grind
  have hsame:es.modify j (λe=>{e with key:=kx})=es:=by
   apply Array.ext'
   rw[ahg,ahh _ _ _ _ q5]
   have:({e with key:=kx}:MapEntry)=e:=by rw[<-q6]
   grind[Go.WideElems.set_self]
  have U:es.modify j (λe=>{e with val:=nx})=es.modify j (λe'=>{e' with key:=kx,val:=nx}):=by
   grind[Array.ext',ahg,ahh]
  have A:es.findIdx? (λe=>((e.born:Nat):Int)==((e.born:Nat):Int))=es.findIdx? (λe=>((e.born:Nat):Int)==((e.born:Nat):Int)):=rfl
  have A:es.findIdx? (λe'=>((e'.born:Nat):Int)==((e.born:Nat):Int))=some j:=by
   rw[ahe]
   grind[ahf]
  have e2:w'={w with heap:=w.heap.setIfInBounds g (.map (es.modify j (λe'=>{e' with key:=kx,val:=nx})) cl)}:=by
   simp[Instr.mapUpdate,run_underlying Y,MapKept.run_getObj_map u,H,cv O,hf,hj,q6,q7,MapKept.run_setObj_map _ u,Result.andThen]at hrun
   grind
  refine⟨w,w',goInt e.born,V,?_,V,?_,hmono,hro⟩
  ·simp[Instr.mapEntry,run_underlying Y,MapKept.run_getObj_map u,H,cv O,hf,hj,q6,q7,hsame,MapKept.run_setObj_map _ u,Result.andThen,hvx];exact Q6 u
  ·rw[e2];simp[Instr.entryStore,MapKept.run_getObj_map u,asInt,asIntOf,goInt,A,U,MapKept.run_setObj_map _ u,Result.andThen]
theorem jq{a:Act}{d:Tmp}{v:Value}(h:d<a.tmps.size):(a.put (some d) v).eval (.tmp d)=v:=by
 simp[Act.put,Act.eval,h]
theorem jo{a:Act}{d t:Tmp}{v:Value}(h:d≠t):(a.put (some d) v).eval (.tmp t)=a.eval (.tmp t):=Act.eval_put λe u q=>by grind
theorem dv{a:Act}{dst:Option Tmp}{v:Value}:(a.put dst v).tmps.size=a.tmps.size:=by
 cases dst<;>simp[Act.put]
end
def dm(done:L1):L1:=done.map (λp=>(p.1,1))
theorem OP(n:Nd):∀done:L1,bU (dm done) n=if n∈done.map Prod.fst then some 1 else none
 | []=>rfl
 |p::l=>by
  rw[dm,aga,bU]
  by_cases h:p.1=n
  ·rw[if_pos h,if_pos (by simp[h])]
  ·rw[if_neg h]
   have:=OP n l
   rw[dm]at this;rw[this];have q: ¬n=p.1:=λe=>h e.symm;simp only[aga,afZ,q,false_or]
theorem OQ{n:Nd}{τ:Int}:∀{done:L1},n∉done.map Prod.fst->gP (dm done) n 1=dm (done++[(n,τ)])
 | [],_=>rfl
 |p::l,h=>by
  rw[aga,afZ,not_or]at h;rw[dm,aga,gP,if_neg (Ne.symm h.1)]
  have:=OQ (τ:=τ) h.2
  rw[dm]at this;rw[this];rfl
def qT(S:DS):Prop:=∀x∈S.heap,0 <= -x.1∧ -x.1<=1099511627776
theorem UD{st:Nat->ByteArray->Option Nat}{a:Nd}{time:Int}{S:DS}{e:bH}(h:qT S)(A:0<=time∧time<=1099511627776)(H:0<=e.time∧e.time<=1099511627776):qT (wL st a time S e):=by
 unfold wL
 split
 ·exact h
 ·split
  ·intro x u
   rcases List.mem_append.1 ((jN _ _).mem_iff.1 u)with q|q
   ·exact h x q
   ·rw[List.mem_singleton]at q;subst q;simp only;omega
  ·exact h
theorem Gj{st:Nat->ByteArray->Option Nat}{E:Id}{a:Nd}{time:Int}{S:DS}(h:qT S)(u:0<=time∧time<=1099511627776)(A:∀e∈E,0<=e.time∧e.time<=1099511627776):qT (pf st E a time S):=by
 have key:∀(l:Id)(S:DS),(∀e∈l,e∈E)->qT S->qT (l.foldl (wL st a time) S):=by
  intro l
  induction l with
  |nil=>exactλS _ h=>h
  |cons e l ih=>exactλS hl h=>ih _ (λe q=>hl e (List.mem_cons_of_mem _ q)) (UD h u (A e (hl e List.mem_cons_self)))
 exact key _ S (λe q=>(kn.1 q).1) h
theorem Rm{st:Nat->ByteArray->Option Nat}{E:Id}{a:Nd}{time:Int}{S:DS}:(pf st E a time S).heap.length<=S.heap.length+(kU E a.1).length:=by
 have key:∀(l:Id)(S:DS),(l.foldl (wL st a time) S).heap.length<=S.heap.length+l.length:=by
  intro l
  induction l with
  |nil=>exactλS=>Nat.le_refl _
  |cons e l ih=>
   intro S;have u:=ih (wL st a time S e)
   have q:(wL st a time S e).heap.length<=S.heap.length+1:=by
    unfold wL
    split
    ·omega
    ·split
     ·have:=(jN S.heap (-(min time e.time),(S.nodes.length:Int))).length_eq
      simp at this;simp only;omega
     ·omega
   simp only[afO,afa];omega
 exact key _ S
theorem Uq{S:DS}(h:qT S)(q:S.heap≠[]):qT S.pop:=λx u=>h x ((jS q).2 (.inr u))
def LQ(p:Nd×Int):C5:=[.agg (cJ p.1),.v (.int .i64 p.2)]
def D6(S:DS)(q:Nat):AC:=[some ⟨108,0,false,cg cJ S.known⟩,some ⟨108,1,false,[[.vec 0 0]]⟩,some ⟨79,2,true,S.nodes.map cJ⟩,some ⟨109,1,false,[[.vec 2 S.nodes.length]]⟩,
 some ⟨162,2,false,[[.vec (if S.heap=[]then 5 else q) S.pop.heap.length,.v (.bool true)]]⟩,(if S.heap=[]then some ⟨115,2,true,S.pop.heap.map bc⟩else none),some ⟨110,1,false,[[.ptr 4 0 2 0 0]]⟩]
def Rw(S:DS):Option aa:=if S.heap=[]then none else some ⟨115,2,true,S.pop.heap.map bc⟩
def fR(done:L1):Option aa:=some ⟨107,0,false,cg cJ (dm done)⟩
theorem RW(S:DS):∀ob,some ob∈nf S->bD 7 ob.rows=true:=λob h=>by
 simp only[nf,afZ,aez,agc,or_false]at h
 rcases h with rfl|rfl|rfl|rfl|rfl|rfl|rfl
 ·exact ei _ _
 ·rfl
 ·exact ku _ _
 ·rfl
 ·rfl
 ·exact aQ _ _
 ·rfl
theorem ai.cN{A:oZ}{E:Id}{G:List (ByteArray×Id)}{a:Nd}{time:Int}{S:DS}{post:AC}{K:AV->AC->Prop}(U:∀v,(qN G v).getD []=kU E v)(hn:S.heap.length+E.length<=999999)(H:S.nodes.length+E.length<=999999)(q:0<=time∧time<=1099511627776)(V:∀e∈E,0<=e.time∧e.time<=1099511627776)
  (k:K (.ck []) (nf (pf (ic A) E a time S)++post)):ai prog 54 [.agg (cJ a),.v (.int .i64 time),.vp [.vp (c7 A),.mp (gj G)],.ptr 1 0 1 0 0,.ptr 6 0 1 0 0,.ptr 3 0 1 0 0] (nf S++post) K:=by
 have u:=xe E a.1;refine ai.sub (KP A E G a time S (U a.1) zd zd q (λe O=>V e (kn.1 O).1)) rfl ?_ (RW _) (RW _) rfl k;simp only[cJ,aU,AV.wf,gk,ky,Bool.and_true];rfl
def R3(S:DS):Option aa:=some ⟨115,2,false,[bc (aX S.heap 0)]⟩
def TC(S:DS)(done:L1)(pre:Bool):AC:=if pre then D6 S 10++[fR done,none,none,Rw S,R3 S]else D6 S 11++[fR done,R3 S,none,none,Rw S]
def VC(pre:Bool):Nat:=if pre then 11 else 8
theorem ai.WQ{S:DS}{post:AC}{K:AV->AC->Prop}(hl:S.heap.length<=1000000)
  (k:K (.ck [.agg (bc (aX S.heap 0)),.v (.bool (decide (S.heap≠[])))]) (D6 S (9+post.length)++post++[none,none,Rw S])):ai prog 58 [.ptr 4 0 2 0 0] (nf S++post) K:=by
 have eI:∀f l,cm f (List.map bc l)=List.map bc l:=λf l=>bn _ _ (aQ _ _)
 have hlen:(nf S++post).length=7+post.length:=by simp[nf];omega
 by_cases q:S.heap=[]
 ·rw[decide_eq_false (by simp[q])]at k;have P:=bR.pad WO 3
  refine ai.fr [4,5] P zk ?_ rfl rfl ?_ ?_
  ·simp only[nf,q];rfl
  ·intro j ob u
   match j,u with
   |0,u=>cases u;rfl
   |1,u=>cases u;rfl
   |j+2,u=>simp[rN]at u
  ·rw[hlen]
   have e:fj (sig [4,5] (7+post.length)) [4,5] (rN []++List.replicate 3 none) (nf S++post)=D6 S (9+post.length)++post++[none,none,Rw S]:=by
    have ep:pd ([]:LT)=[]:=rfl;simp only[fj,nf,D6,Rw,DS.pop,rN,q,ep,if_true,agE,aeq,aga,afK,List.set_cons_zero,List.set_cons_succ,aeO,ahi,aa.ba,cm,bV,AV.ba,List.append_assoc,afJ,afU,afV];rfl
   rw[e];rw[q]at k;exact k
 ·rw[decide_eq_true q]at k;have P:=Zr S.heap q hl
  refine ai.fr [4,5] P zk ?_ rfl rfl ?_ ?_
  ·simp only[nf,rN,aga,agE,afK,afD,afE,aeO,aa.ba,cm,bV,AV.ba,eI];rfl
  ·intro j ob u
   match j,u with
   |0,u=>cases u;rfl
   |1,u=>cases u;exact aQ _ _
   |j+2,u=>simp[rN]at u
  ·rw[hlen]
   have e:fj (sig [4,5] (7+post.length)) [4,5] [some ⟨162,2,false,[[.vec 4 (pd S.heap).length,.v (.bool true)]]⟩,none,none,none,some ⟨115,2,true,(pd S.heap).map bc⟩] (nf S++post)=D6 S (9+post.length)++post++[none,none,Rw S]:=by
    have A:sig [4,5] (7+post.length) 4=9+post.length:=by simp[sig];omega
    simp only[fj,nf,D6,Rw,if_neg q,aga,agE,afK,List.set_cons_zero,List.set_cons_succ,aeO,ahi,aa.ba,cm,bV,AV.ba,eI,A,List.append_assoc,afJ];rfl
   rw[e];exact k
theorem Te{st:Nat->ByteArray->Option Nat}{E:Id}(q:∀e∈E,0<=e.time∧e.time<=1099511627776)(root:ByteArray):qT (OO st E root):=Gj (λx h=>by cases h) ⟨zs,Int.le_refl _⟩ q
theorem M0(A:oZ)(E:Id)(G:List (ByteArray×Id))(root:ByteArray)(hG:∀v,(qN G v).getD []=kU E v)(hE:∀e∈E,0<=e.time∧e.time<=1099511627776)(hl:E.length<=31)(n:Nat)(hn:n<=32)(hst:∀s l t,ic A s l=some t->t<n) :
  ur prog 52 [.vp [.vp (c7 A),.mp (gj G)],.vp [.v (.string root)]] [] ((zU (ic A) n E root).map LQ):=by
 have ST:=λa time S=>KP A E G a time S (hG a.1);have hol:=λv=>xe E v;have NW:=Zk;simp only[rN]at NW
 (refine ur.enter func52 rfl zo zo rfl (λl=>?_);simp only[ntmps52,results52,afa,aeq,Nat.reduceAdd,Nat.reduceSub,afU,afV,afK,afJ])
 (refine ae ?_;intro K hK K hK)
 refine ai.fr [] NW List.nodup_nil rfl rfl rfl (λk ob h=>by simp at h) ?_
 (revert K;revert K;refine ae ?_;intro K hK K hK)
 have e0:([some ⟨108,0,false,[]⟩,some ⟨108,1,false,[[.vec 0 0]]⟩,some ⟨79,2,true,[]⟩,some ⟨109,1,false,[[.vec 2 0]]⟩,some ⟨162,2,false,[[.vec 5 0,.v (.bool true)]]⟩,some ⟨115,2,true,[]⟩,some ⟨110,1,false,[[.ptr 4 0 2 0 0]]⟩]:AC)=nf ⟨[],[],[]⟩++[]:=rfl;have hS0:pf (ic A) E (root,0) Ar ⟨[],[],[]⟩=OO (ic A) E root:=rfl;refine ai.cN (S:=⟨[],[],[]⟩) (a:=(root,0)) (time:=1099511627776) (post:=[]) hG ahy ahy zd hE ?_;have hb:∀e∈E,e.time<=Ar:=λe he=>(hE e he).2;obtain⟨hDL,hRP⟩:=J2 (n:=n) hst hb root;have hT0:=Te (st:=ic A) hE root;have hcand:∀e∈E,∀s t,ic A s e.label=some t->(e.to,t)∈jB n E:=j6 hst
 have hcl:(jB n E).length<=992:=by rw[qm];exact ahj hl hn
 have hF:YQ (ic A) n E root<=900000:=by
  have h1:(OO (ic A) E root).heap.length<=0+(kU E root).length:=Rm;have h2:(jB n E).length*(E.length+1)<=992*32:=ahj hcl zd;have h3:=hol root;unfold YQ;omega
 rw[zU];rw[show pf (ic A) E (root,0) 1099511627776 ⟨[],[],[]⟩=OO (ic A) E root from rfl];generalize YQ (ic A) n E root=F at *;generalize OO (ic A) E root=S0 at *;simp only[nf,afK,afJ]
 (revert K;revert K;refine ae ?_;intro K hK K hK)
 have hF0:=hDL.fuel;refine ai.WQ (S:=S0) (post:=[fR []]) zd ?_;simp only[D6,afK,afJ,afa,aeq,Nat.reduceAdd,bc]
 (revert K;revert K;refine ae ?_)
 refine uA (ι:=DS×L1×Nat×Bool) 8 (λx=>[(8,.vec 7 0),(9,.ptr (VC x.2.2.2) 0 2 0 0),(10,.v (.bool (decide (x.1.heap≠[]))))]) (λx=>TC x.1 x.2.1 x.2.2.2) (λx=> .run l ((jC (ic A) E x.2.2.1 x.1 (x.2.1.map Prod.fst)).map LQ)) (λx=>x.2.2.1)
  (λx=>DL (ic A) E root (jB n E) x.2.2.1 x.1 x.2.1∧qT x.1∧x.2.2.1<=F) (S0,[],F,true) ⟨hDL,hT0,Nat.le_refl _⟩ ?_ ?_
 ·simp only[TC,D6,VC,if_true,fR,R3,bc,afK,afJ];refine ab ar (bJ ?_) ar
  all_goals(by_cases q:S0.heap=[]<;>simp[q,Rw,aQ])
 ·rintro⟨S,done,f,pre⟩ ⟨hD,hT,hf⟩ K hK;simp only at hD hT hf⊢
  by_cases U:S.heap=[]
  ·have H:decide (S.heap≠[])=false:=by simp[U]
   rw[xV f _ U,H]
   cases pre
   ·simp only[TC,D6,VC,if_false,afC,fR,R3,bc,afK,afJ,agE]
    (revert K;refine ae ?_)
    exact .inl trivial
   ·simp only[TC,D6,VC,if_true,fR,R3,bc,afK,afJ,agE]
    (revert K;refine ae ?_)
    exact .inl trivial
  ·rw[decide_eq_true U]
   have hq:=hD.next hcand U
   obtain⟨i,nd,f',rfl,h1,h2,h3,h4⟩:=hq;have eK:∀f(l:L1),cm f (cg cJ l)=cg cJ l:=λf l=>bn _ _ (ei _ _);have eI:∀f l,cm f (List.map bc l)=List.map bc l:=λf l=>bn _ _ (aQ _ _);have eNn:∀f l,cm f (List.map cJ l)=List.map cJ l:=λf l=>bn _ _ (ku _ _);have eA:∀f,bV f (c7 A)=c7 A:=λf=>fJ _ _ (gk _ _)
   refine Or.inr (xJ [0,1,2,3,4,if pre then 10 else 11,6,7,if pre then 11 else 8] (bP 61 [(0,.v (.func (.yield l) #[] #[])),(1,.vp [.vp (c7 A),.mp (gj G)]),(2,.vp [.v (.string root)]),(4,.ptr 1 0 1 0 0),(5,.ptr 3 0 1 0 0),(6,.ptr 6 0 1 0 0),(7,.fn 54 [] [.vp [.vp (c7 A),.mp (gj G)],.ptr 1 0 1 0 0,.ptr 6 0 1 0 0,.ptr 3 0 1 0 0]),(8,.vec 7 0),(9,.ptr 8 0 2 0 0),(10,.v (.bool true))])
    (nf S.pop++[fR done,R3 S]) ?_ ?_ ?_ ?_ zo ?_)
   ·cases pre<;>decide
   ·have e1:(bc (aX S.heap 0)).length=2:=rfl;cases pre<;>simp only[TC,D6,nf,Rw,if_neg U,if_true,if_false,afC,fR,R3,bc,afK,afJ,aga,agE,afD,afE,aeO,aa.ba,cm,bV,AV.ba,eK,eI,eNn]<;>rfl
   ·intro k ob hk;have hm:=aeQ hk;simp only[nf,fR,R3,afK,afJ,afZ,aez,agc,or_false]at hm
    rcases hm with rfl|rfl|rfl|rfl|rfl|rfl|rfl|rfl|rfl
    ·exact ei _ _
    ·rfl
    ·exact ku _ _
    ·rfl
    ·rfl
    ·exact aQ _ _
    ·rfl
    ·exact ei _ _
    ·rfl
   ·cases pre
    ·simp only[TC,D6,if_false,afC,afK,afJ,afa,aeq];simp only[go_sem,rl,lV,cO,bP,VC,List.foldl,sig,bV,AV.ba,true_or,or_true,eA]
    ·simp only[TC,D6,if_true,afK,afJ,afa,aeq];simp only[go_sem,rl,lV,cO,bP,VC,List.foldl,sig,bV,AV.ba,true_or,or_true,eA]
   have k1:S.pop.nodes[i]?=some nd:=h2;have hfl:=hD.fuel;have hnl:=hD.len;have hpl:=y6 U
   have hdl:done.length<=(jB n E).length:=by
    have:=Kq hD.dnd hD.sdn
    simpa using this
   have hnl2:(done.length+1)*E.length<=993*31:=ahj zd hl;have hTm:=Uq hT U;have hkey:=hT _ ((jS U).2 (.inl rfl))
   have hTh:S.pop.heap.length<=f'+1:=by show(pd S.heap).length<=_;omega
   have hTn:S.pop.nodes.length=S.nodes.length:=rfl;have hRn:∀(H:nd∉done.map Prod.fst),jC (ic A) E (f'+1) S (done.map Prod.fst)=(nd, -(aX S.heap 0).1)::jC (ic A) E f' (pf (ic A) E nd (-(aX S.heap 0).1) S.pop) (done.map Prod.fst++[nd]):=λH=>Ax U h1 h2 H;have hRo:∀(H:nd∈done.map Prod.fst),jC (ic A) E (f'+1) S (done.map Prod.fst)=jC (ic A) E f' S.pop (done.map Prod.fst):=λH=>Ay U h1 h2 H;simp only[R3,bc,h1];generalize(aX S.heap 0).1=key at *;generalize jC (ic A) E (f'+1) S (done.map Prod.fst)=Y at *;generalize S.pop=T at *
   have k2:(T.nodes.map cJ).getD i []=[.v (.string nd.1),.v (.int .i64 (nd.2:Nat))]:=by
    have hi:=(aeu.1 k1);obtain⟨hi,rfl⟩:=hi;rw[getD_map cJ T.nodes i [] hi];rfl
   have k3:(T.nodes.map cJ).length=T.nodes.length:=zk
   have k4:i<T.nodes.length:=(aeu.1 k1).1
   have tt:lS prog 79=some [.s,.i]:=zo
   have g1:=mL vU nd (dm done);have g3:=vU nd nd;rw[decide_eq_true rfl]at g3;rw[OP]at g1;simp only[nf,fR,afK,afJ];simp only[bP,afO,afP,afU,afV,go_sem]
   by_cases H:nd∈done.map Prod.fst
   ·rw[if_pos H]at g1;simp only[cJ,aeO]at g1 g3
    have d1:decide ((0:Int)<1)=true:=zs
    (revert K;refine jf 14 (oT k2 k3 g1 g3 tt d1) ?_;intro K hK K hK K hK)
    ((iterate 3 revert K);refine dG 8 ?_;intro K hK)
    refine qj [0,1,2,3,4,5,6,7,10] (bP 61 [(0,.v (.func (.yield l) #[] #[])),(1,.vp [.vp (c7 A),.mp (gj G)]),(2,.vp [.v (.string root)]),(4,.ptr 1 0 1 0 0),(5,.ptr 3 0 1 0 0),(6,.ptr 6 0 1 0 0),(7,.fn 54 [] [.vp [.vp (c7 A),.mp (gj G)],.ptr 1 0 1 0 0,.ptr 6 0 1 0 0,.ptr 3 0 1 0 0]),(8,.vec 7 0),(9,.ptr 8 0 2 0 0)])
     (nf T++[fR (done),some ⟨115,2,false,[[.v (.int .i64 key),.v (.int .i64 (i:Nat))]]⟩]) zs ?_ ?_ ?_ zo ?_
    ·simp only[nf,fR,afK,afJ,aga,agE,afD,afE,aeO,aa.ba,cm,bV,AV.ba,eK,eI,eNn];rfl
    ·intro k ob hk;have hm:=aeQ hk;simp only[nf,fR,afK,afJ,afZ,aez,agc,or_false]at hm
     rcases hm with rfl|rfl|rfl|rfl|rfl|rfl|rfl|rfl|rfl
     ·exact ei _ _
     ·rfl
     ·exact ku _ _
     ·rfl
     ·rfl
     ·exact aQ _ _
     ·rfl
     ·exact ei _ _
     ·rfl
    ·simp only[afa,aeq];simp only[go_sem,rl,bP,List.foldl,sig,bV,AV.ba,true_or,or_true,eA]
    simp only[nf,fR,afK,afJ];simp only[bP,afO,afP,afU,afV,go_sem]
    (revert K;refine ae ?_;intro K hK K hK)
    refine ai.WQ (S:=T) (post:=[fR (done),some ⟨115,2,false,[[.v (.int .i64 key),.v (.int .i64 (i:Nat))]]⟩]) zd ?_;simp only[D6,afK,afJ,afa,aeq,Nat.reduceAdd,bc]
    (revert K;revert K;refine ae ?_)
    rw[hRo H];refine aw.mk (T,done,f',false) ⟨h3 H,hTm,(show f'<=F by omega)⟩ (Nat.lt_succ_self f') ?_;simp only[TC,D6,VC,if_false,afC,fR,R3,bc,afK,afJ];refine ab ar (bJ ?_) ar
    all_goals(by_cases q:T.heap=[]<;>simp[q,Rw,aQ])
   ·rw[if_neg H]at g1;simp only[cJ,ahi]at g1 g3
    have d1:decide ((0:Int)<0)=false:=zs
    (revert K;refine jf 11 (oT k2 k3 g1 g3 tt d1) ?_;iterate 4 intro K hK)
    refine Or.inr ?_;intro fr m D nu a w hZr hn0 hm hs hmx R hO hR;have W:=hs.drew;have hmv:=W.ev (.tmp 8);have hpv:=W.ev (.tmp 11);simp only[AS.ev,List.getD_cons_succ,List.getD_cons_zero]at hmv hpv
    have V:a.tmps.size=61:=by have:=W.tm.len;simpa using this.symm
    obtain⟨kx,hkr,hkx⟩:=qv (P:=prog) (T:=79) W.ro hpv (r:= .agg [.v (.string nd.1),.v (.int .i64 (nd.2:Nat))]) rfl (by refine⟨⟨rfl,rfl⟩,?_⟩;show _<=2;exact Nat.le_of_eq zo)
    have hlk:mr prog 3 [.s,.i] (cg cJ (dm done)) [.v (.string nd.1),.v (.int .i64 (nd.2:Nat))] false=some (.v (.int .i64 0)):=by
     rw[mr,if_pos g3,g1];rfl
    have hst2:=ub vU nd 1 (dm done);obtain⟨w1,w2,st,r1,r2,r3,r4,hmo,hro2⟩:=Y7 (P:=prog) (T:=107) (kt:=79) (et:=3) (zx:= .int .i64 0) W.ro hmv hkx zo tt rfl rfl rfl g3 hlk zo hst2;refine ug hmx zo hO (SC za (λj=>match j with|0=>a.eval (.tmp 8)|1=>kx|2=> .int .i64 0|3=> .int .i64 1|4=> .tuple #[.int .i64 0,st]|5=>st|_=>Go.undef) (λd=>if d 6 then w2 else if d 4 then w1 else w.drew) rfl ?_)
    have W46:∀{d:Nat->Bool},d 6=false->d 4=false->(if d 6=true then w2 else if d 4=true then w1 else w.drew)=w.drew:=λh6 h4=>by rw[h6,h4];rfl
    have W6:∀{d:Nat->Bool},d 6=false->d 4=true->(if d 6=true then w2 else if d 4=true then w1 else w.drew)=w1:=λh6 h4=>by rw[h6,h4];rfl
    have i6:∀(d:Nat->Bool)(k:Nat),k≠6->nP d k 6=d 6:=λd k h=>if_neg (Ne.symm h);have i4:∀(d:Nat->Bool)(k:Nat),k≠4->nP d k 4=d 4:=λd k h=>if_neg (Ne.symm h)
    refine⟨λx d O H u=>⟨rfl,.inl ?_⟩,λx d O H u=>⟨rfl,.inl ?_⟩,λx d O H u=>⟨rfl,.inl ?_⟩,λx d O H u=>⟨rfl,.inl ?_⟩,λx d O H u=>⟨rfl,.inl ?_⟩,λx d O H u=>⟨rfl,.inl ?_⟩,λx d O H u=>⟨rfl,.inr ⟨?_,rfl⟩⟩,λx d hall=>?_⟩
    ·simp only[i6 d 0 zs,i4 d 0 zs];simp only[execOp,Sem.run_pure]
    ·have hx0:=u
     have h4:d 4=false:=by
      cases h:d 4
      ·rfl
      ·rw[O 4 1 zs h zo]at H;cases H
     have h6:d 6=false:=by
      cases h:d 6
      ·rfl
      ·rw[O 6 1 zs h zo]at H;cases H
     simp only[i6 d 1 zs,i4 d 1 zs];rw[W46 h6 h4];simp only[execOp,jo (show(41:Nat)≠11 by decide)];simp[hkr]
     trace_state
    ·have x0:=(u 0 zs zo).1;have x1:=(u 1 zs zo).1
     have h6:d 6=false:=by
      cases h:d 6
      ·rfl
      ·rw[O 6 2 zs h zo]at H;cases H
     simp only[i6 d 2 zs,i4 d 2 zs]
     have e1:((a.put (some 41) (x 0)).put (some 42) (x 1)).eval (.tmp 41)=a.eval (.tmp 8):=by rw[jo zs,jq (by rw[V];decide)];exact x0
     have e2:((a.put (some 41) (x 0)).put (some 42) (x 1)).eval (.tmp 42)=kx:=by rw[jq (by rw[dv,V];decide)];exact x1
     simp only[execOp,e1,e2]
     cases h4:d 4
     ·simp[h6,r1]
     ·simp[h6,r3]
    ·have x2:=(u 2 zs zo).1;simp only[i6 d 3 zs,i4 d 3 zs]
     have e1:(((a.put (some 41) (x 0)).put (some 42) (x 1)).put (some 43) (x 2)).eval (.tmp 43)=.int .i64 0:=by rw[jq (by rw[dv,dv,V];decide)];exact x2
     simp only[execOp,e1]
     rfl
    ·have x0:=(u 0 zs zo).1;have x1:=(u 1 zs zo).1
     have h6:d 6=false:=by
      cases h:d 6
      ·rfl
      ·rw[O 6 4 zs h zo]at H;cases H
     have e1:((((a.put (some 41) (x 0)).put (some 42) (x 1)).put (some 43) (x 2)).put (some 44) (x 3)).eval (.tmp 41)=a.eval (.tmp 8):=by rw[jo zs,jo zs,jo zs,jq (by rw[V];decide)];exact x0
     have e2:((((a.put (some 41) (x 0)).put (some 42) (x 1)).put (some 43) (x 2)).put (some 44) (x 3)).eval (.tmp 42)=kx:=by rw[jo zs,jo zs,jq (by rw[dv,V];decide)];exact x1
     simp only[execOp,e1,e2,i6 d 4 zs];simp[h6,H,nP,r2]
    ·have x4:=(u 4 zs zo).1;simp only[i6 d 5 zs,i4 d 5 zs]
     have e1:(((((a.put (some 41) (x 0)).put (some 42) (x 1)).put (some 43) (x 2)).put (some 44) (x 3)).put (some 45) (x 4)).eval (.tmp 45)=.tuple #[.int .i64 0,st]:=by rw[jq (by rw[dv,dv,dv,dv,V];decide)];exact x4
     simp only[execOp,e1]
     rfl
    ·have x0:=(u 0 zs zo).1;have x3:=(u 3 zs zo).1;have x5:=(u 5 zs zo).1;have h4:=(u 4 zs zo).2
     have e1:((((((a.put (some 41) (x 0)).put (some 42) (x 1)).put (some 43) (x 2)).put (some 44) (x 3)).put (some 45) (x 4)).put (some 46) (x 5)).eval (.tmp 41)=a.eval (.tmp 8):=by rw[jo zs,jo zs,jo zs,jo zs,jo zs,jq (by rw[V];decide)];exact x0
     have e2:((((((a.put (some 41) (x 0)).put (some 42) (x 1)).put (some 43) (x 2)).put (some 44) (x 3)).put (some 45) (x 4)).put (some 46) (x 5)).eval (.tmp 46)=st:=by rw[jq (by rw[dv,dv,dv,dv,dv,V];decide)];exact x5
     have e3:((((((a.put (some 41) (x 0)).put (some 42) (x 1)).put (some 43) (x 2)).put (some 44) (x 3)).put (some 45) (x 4)).put (some 46) (x 5)).eval (.tmp 44)=.int .i64 1:=by rw[jo zs,jo zs,jq (by rw[dv,dv,dv,V];decide)];exact x3
     simp only[execOp,e1,e2,e3];simp[H,h4,nP,r4]
    ·have hx:∀i,i<7->x i=_:=λi hi=>(hall i hi).1;have x0:x 0=a.eval (.tmp 8):=hx 0 zs;have x1:x 1=kx:=hx 1 zs;have x2:x 2=.int .i64 0:=hx 2 zs;have x3:x 3=.int .i64 1:=hx 3 zs;have q1:=W.put (.refl _ _ _) W.ro hmv (some 41);have q2:=q1.put (.refl _ _ _) q1.ro hkx (some 42);have q3:=q2.put (.refl _ _ _) q2.ro (.v (.int .i64 0)) (some 43);have q4:=q3.put (.refl _ _ _) q3.ro (.v (.int .i64 1)) (some 44);have q5:=q4.put (.refl _ _ _) q4.ro (.undef (x 4)) (some 45);have q6:=q5.put (.refl _ _ _) q5.ro (.undef (x 5)) (some 46);have q7:=q6.put hmo hro2 (.undef (x 6)) none;rw[<-x0, <- x1, <- x2, <- x3]at q7
     have hW:(if d 6=true then w2 else if d 4=true then w1 else w.drew)=w2:=by rw[(hall 6 zs).2];rfl
     show R .normal (((((((a.put (some 41) (x 0)).put (some 42) (x 1)).put (some 43) (x 2)).put (some 44) (x 3)).put (some 45) (x 4)).put (some 46) (x 5)).put none (x 6)) (if d 6=true then w2 else if d 4=true then w1 else w.drew);rw[hW]
     refine hR .normal D fr.Z _ _ _ nu ?_ q7 ?_
     ·exact m.own hm hs.ro (cf.trans (aG (dE w)) hmo) hro2
     clear q1 q2 q3 q4 q5 q6 q7 hR;rw[OQ (τ:= -key) H];simp only[AS.put];have hH:=h4 H
     have hwn:IntKind.i64.wrap (0-key) = -key:=by rw[bT zd zd];omega
     rw[hRn H,aga];simp only[LQ,cJ]
     ((iterate 4 revert K);refine jf 13 hwn ?_;iterate 5 intro K hK)
     refine oO.mk ?_ ?_
     ·((iterate 5 revert K);refine ak hwn ?_;intro K hK K hK K hK)
      refine ai.cN (S:=T) (a:=nd) (time:= -key) (post:=[fR (done++[(nd, -key)]),some ⟨115,2,false,[[.v (.int .i64 key),.v (.int .i64 (i:Nat))]]⟩,some ⟨79,2,false,[[.v (.string nd.1),.v (.int .i64 (nd.2:Nat))]]⟩]) hG zd (by rw[hTn];omega) zd hE ?_;have hT2:=Gj (st:=ic A) (E:=E) (a:=nd) (time:= -key) hTm zd hE;have hH1:=hH.1;have hH2:=hH1.fuel
      have hmap:(done++[(nd, -key)]).map Prod.fst=done.map Prod.fst++[nd]:=zk
      clear hH h4;generalize pf (ic A) E nd (-key) T=T2 at *;simp only[nf,fR,afK,afJ]
      ((iterate 3 revert K);refine dG 8 ?_;intro K hK)
      refine qj [0,1,2,3,4,5,6,7,10] (bP 61 [(0,.v (.func (.yield l) #[] #[])),(1,.vp [.vp (c7 A),.mp (gj G)]),(2,.vp [.v (.string root)]),(4,.ptr 1 0 1 0 0),(5,.ptr 3 0 1 0 0),(6,.ptr 6 0 1 0 0),(7,.fn 54 [] [.vp [.vp (c7 A),.mp (gj G)],.ptr 1 0 1 0 0,.ptr 6 0 1 0 0,.ptr 3 0 1 0 0]),(8,.vec 7 0),(9,.ptr 8 0 2 0 0)])
       (nf T2++[fR (done++[(nd, -key)]),some ⟨115,2,false,[[.v (.int .i64 key),.v (.int .i64 (i:Nat))]]⟩]) zs ?_ ?_ ?_ zo ?_
      ·simp only[nf,fR,afK,afJ,aga,agE,afD,afE,aeO,aa.ba,cm,bV,AV.ba,eK,eI,eNn];rfl
      ·intro k ob hk;have hm:=aeQ hk;simp only[nf,fR,afK,afJ,afZ,aez,agc,or_false]at hm
       rcases hm with rfl|rfl|rfl|rfl|rfl|rfl|rfl|rfl|rfl
       ·exact ei _ _
       ·rfl
       ·exact ku _ _
       ·rfl
       ·rfl
       ·exact aQ _ _
       ·rfl
       ·exact ei _ _
       ·rfl
      ·simp only[afa,aeq];simp only[go_sem,rl,bP,List.foldl,sig,bV,AV.ba,true_or,or_true,eA]
      simp only[nf,fR,afK,afJ];simp only[bP,afO,afP,afU,afV,go_sem]
      (revert K;refine ae ?_;intro K hK K hK)
      refine ai.WQ (S:=T2) (post:=[fR (done++[(nd, -key)]),some ⟨115,2,false,[[.v (.int .i64 key),.v (.int .i64 (i:Nat))]]⟩]) zd ?_;simp only[D6,afK,afJ,afa,aeq,Nat.reduceAdd,bc]
      (revert K;revert K;refine ae ?_)
      refine aw.mk (T2,done++[(nd, -key)],f',false) ⟨hH1,hT2,(show f'<=F by omega)⟩ (Nat.lt_succ_self f') ?_;simp only[TC,D6,VC,if_false,afC,fR,R3,bc,afK,afJ,hmap];refine ab ar (bJ ?_) ar
      all_goals(by_cases q:T2.heap=[]<;>simp[q,Rw,aQ])
     ·((iterate 5 revert K);refine ae ?_)
      exact .inr trivial
section
theorem M1(A:oZ)(G:List (ByteArray×Id))(root:ByteArray):aj prog 30 [.agg [.vp (c7 A),.mp (gj G)],.v (.string root)] (.fn 52 [] [.vp [.vp (c7 A),.mp (gj G)],.vp [.v (.string root)]]):=by
 have u:aU 0 [.agg [.vp (c7 A),.mp (gj G)],.v (.string root)]=true:=by simp only[aU,AV.wf,gk,ky,afo]
 have q:(AV.fn 52 [] [.vp [.vp (c7 A),.mp (gj G)],.vp [.v (.string root)]]).wf 0=true:=by simp only[aU,AV.wf,gk,ky,afo]
 (refine aj.iA func30 rfl zo zo rfl u q ?_;simp only[ntmps30,results30,afa,aeq,Nat.reduceAdd,Nat.reduceSub,afU,afV,List.cons_append,List.nil_append])
 refine ae ?_;refine bB.of 6 rfl ?_;simp only[aa.hl,AV.wf,aU,gk,ky,afo,agA];simp
theorem Ug(x:Ex)(e:Int)(q:e≠0)(E:Id)(C:aj prog 49 [.agg (aN x)] (.ck [.v (.pointer none),.v (.int .i64 e)])):aj prog 27 [.agg (aN x),.aB 5 (E.map aR) E.length] (.ck [.agg [.v (.pointer none),.v (.map none)],.v (.int .i64 e)]):=by
 have z0:(e !=0)=true:=by simp[q]
 rw[aA]at C⊢;refine gE func27 ntmps27 results27 ?_
 (refine ae ?_;intro K hK K hK)
 (revert K;revert K;refine dA C z0 ?_)
 (refine iG.of 40 rfl ?_;simp only[go_sem])
section
variable {st:Nat->ByteArray->Option Nat} {tk:Nat->Bool} {em:Bool} {n:Nat}
def XL(tk:Nat->Bool)(root:ByteArray)(p:Nd×Int):Option (K2×Int):=if tk p.1.2 then some ((root,p.1.1),p.2)else none
def z7(st:Nat->ByteArray->Option Nat)(tk:Nat->Bool)(em:Bool)(n:Nat)(E:Id)(i:Nat):PL:=fI (((aI E).take i).flatMap (vY st tk em n E)) []
def IY(st:Nat->ByteArray->Option Nat)(tk:Nat->Bool)(n:Nat)(E:Id)(root:ByteArray)(b:PL)(k:Nat):PL:=fI (((zU st n E root).take k).filterMap (XL tk root)) b
theorem MT{E:Id}{i:Nat}(h:i<(aI E).length):z7 st tk em n E (i+1)=IY st tk n E (aI E)[i].1.1 (if em then gb (z7 st tk em n E i) ((aI E)[i].1.1,(aI E)[i].1.1) (aI E)[i].2 else z7 st tk em n E i) (zU st n E (aI E)[i].1.1).length:=by
 rw[z7,agO h,List.flatMap_append,qA,IY,agP];simp only[List.flatMap_cons,List.flatMap_nil,agy,vY,fB];rw[qA];cases em<;>rfl
theorem MS{E:Id}{root:ByteArray}{b:PL}{k:Nat}(h:k<(zU st n E root).length):IY st tk n E root b (k+1)=if tk (zU st n E root)[k].1.2 then gb (IY st tk n E root b k) (root,(zU st n E root)[k].1.1) (zU st n E root)[k].2 else IY st tk n E root b k:=by
 rw[IY,agO h,List.filterMap_append,qA];simp only[List.filterMap_cons,List.filterMap_nil,XL];cases tk (zU st n E root)[k].1.2<;>rfl
theorem Bk{K:Type} [DecidableEq K]:∀(l b:List (K×Int)),(fI l b).length<=b.length+l.length
 | [],b=>aen _
 |p::l,b=>by
  have u:=Bk l (gb b p.1 p.2);have q:=xN b p.1 p.2;show(fI l (gb b p.1 p.2)).length<=_;simp only[afa];omega
theorem Tc{E:Id}(q:∀s l t,st s l=some t->t<n)(W:∀e∈E,e.time<=Ar)(root:ByteArray):(zU st n E root).length<=E.length*n:=by
 have F:=Cn q W root
 have h:=Kq F.nd (m:=jB n E) (λx O=>by
  obtain⟨p,V,rfl⟩:=ag2.1 O;have U:=F.jw p V
  have key:∀{τ v s},DZ st E τ root v s->(v,s)∈jB n E:=λh=>by
   cases h with
   |one e s H A Y u=>exact j6 q e H 0 _ u
   |more e s t H A Y u=>exact j6 q e A s _ u
  exact key U)
 rw[qm,List.length_map]at h;exact h
theorem FU{E:Id}(q:∀s l t,st s l=some t->t<n)(u:∀e∈E,e.time<=Ar)(hl:E.length<=31)(hn:n<=32):∀i,(z7 st tk em n E i).length<=100000:=λi=>by
 have V:=Bk (((aI E).take i).flatMap (vY st tk em n E)) []
 have U:∀l:PL,(l.flatMap (vY st tk em n E)).length<=l.length*993:=by
  intro l
  induction l with
  |nil=>simp
  |cons a l ih=>
   have O:=Tc q u a.1.1
   have H:(vY st tk em n E a).length<=1+(zU st n E a.1.1).length:=by
    rw[vY,fB,List.length_append]
    have:=List.length_filterMap_le (λp:Nd×Int=>if tk p.1.2 then some ((a.1.1,p.1.1),p.2)else none) (zU st n E a.1.1)
    cases em<;>simp<;>omega
   have A:E.length*n<=31*32:=Nat.mul_le_mul hl hn;rw[List.flatMap_cons,List.length_append,afa];omega
 have O:=U ((aI E).take i)
 have H:(aI E).length<=62:=by
  have:=lW E E.length (aen _)
  rw[agP]at this;rw[aI,(cL _).length_eq];omega
 have A:((aI E).take i).length<=62:=by rw[List.length_take];omega
 simp only[aeq]at V;rw[z7];omega
end
noncomputable def tH(x:Ex)(E:Id):AV:=if iQ x E=0 then .ck [.aB 3 ((gY x E).map aJ) (gY x E).length,.v (.int .i64 0)]else .ck [.v (.slice none 0 0),.v (.int .i64 (iQ x E))]
theorem Bd(x:Ex)(E:Id)(hl:E.length<=31)(H:∀A,fZ x (ct x)=.inl A->AOk A):(gY x E).length<=100000:=by
 unfold gY
 cases u:fZ x (ct x)with
 |inr e=>simp
 |inl A=>
  simp only
  split
  ·rename_i q;have ok:=H A u
   have:=FU (tk:=λs=>bM A s) (em:=cH x) (Jg ok) (xZ q) hl ok.max (aI E).length
   rw[z7,agP]at this;rw[lL,pT,(cL _).length_eq];exact this
  ·simp
theorem Ec(x:Ex)(A:oZ)(E:Id)(hx:x.ok)(ok:AOk A)(OV:aj prog 27 [.agg (aN x),.aB 5 (E.map aR) E.length] (.ck [.agg [.vp (c7 A),.mp (gj (CD E))],.v (.int .i64 0)]))(he:fb E=0)(hl:E.length<=31) :
  bR prog 9 [.agg (aN x),.aB 5 (E.map aR) E.length] [] (.ck [.vec 6 (lL x A E).length,.v (.int .i64 0)]) [none,none,none,none,none,none,some ⟨37,3,true,(lL x A E).map aJ⟩]:=by
 have eW:∀n l,bD n (cg bI l)=true:=λn l=>gn (λ_=>rfl) l;have EM:=wN x hx;have VT:=Dq E zd;have hE:∀e∈E,0<=e.time∧e.time<=1099511627776:=λe h=>Az (uF he e h);have U:=Jg ok;have RS:=λroot=>M0 A E (CD E) root (Pn E) hE hl A.rows.length ok.max U;have RC:=λroot=>M1 A (CD E) root;have TK:=λs:Int=>OT A ok.ends s;have u:∀n,aU n (c7 A)=true:=λn=>gk n A;have q:∀n,bD n (gj (CD E))=true:=λn=>ky n _;generalize c7 A=vA at *;generalize gj (CD E)=vG at *;rw[aA]at OV EM⊢;refine gF func9 ntmps9 results9 ?_
 (refine ae ?_;intro K hK K hK)
 (revert K;revert K;refine aK OV ?_;intro K hK K hK K hK)
 ((iterate 3 revert K);refine aK VT ?_;intro K hK)
 have hN:(aI E).length<=62:=by
  have:=lW E E.length (aen _)
  rw[agP]at this;rw[aI,(cL _).length_eq];omega
 let B:=z7 (ic A) (λs=>bM A s) (cH x) A.rows.length E
 let oX:Option aa:=some ⟨25,3,false,[[.v (.int .i64 x.kind),.v (.string x.label),.aB 3 (x.kids.map aN) x.kids.length]]⟩
 let oW:Option aa:=some ⟨66,2,false,[[.vp vA,.mp vG]]⟩
 let oM:PL->Option aa:=λl=>some ⟨70,0,false,cg bI l⟩
 let oB:Option aa:=some ⟨70,1,false,[[.vec 2 0]]⟩
 refine b6 (ι:=Nat) (λi=>[(2,.ptr 0 0 3 0 0),(6,.ptr 1 0 2 0 0),(8,.ptr 3 0 1 0 0),(24,.aB 3 ((aI E).map aJ) (aI E).length),(25,.v (.int .i64 ((aI E).length:Nat))),(26,.v (.int .i64 (i:Nat)))]) (λi=>[oX,oW,oM (B i),oB]) (λi=>(aI E).length-i) (λi=>i<=(aI E).length) 0 (Nat.zero_le _) ?_ ?_
 ·simp only[oX,oW,oM,oB];refine ab (bJ ?_) (bJ ?_) ar
  all_goals first|rfl|exact⟨by rw[u,q];rfl,rfl,rfl⟩
 ·rintro i hi K hK;simp only[bP,afO,afP,afU,afV,go_sem]
  rcases Nat.lt_or_ge i (aI E).length with h|h
  ·have d1:decide ((i:Int)<((aI E).length:Int))=true:=b0;have e1:=getD_map aJ (aI E) i [] h;simp only[aJ]at e1
   have eN:((aI E).map aJ).length=(aI E).length:=zk
   have ws:=ag (k:=i) zd;have hS:B (i+1)=_:=MT h;generalize(aI E)[i]=v at *;simp only[oX,oW,oM,oB]
   repeat((fail_if_success (with_reducible refine Rl (i:=8) ?_));first|(with_reducible first|refine bG.up ?_|refineλ(K:AK)hK=>?_|(refine hK _ ?_;clear hK K))|simp only[go_sem,d1,e1,eN]|with_reducible refine wA ?_|clear hK K)
   refine vM ⟨bP 63 [(2,.ptr 0 0 3 0 0),(6,.ptr 1 0 2 0 0),(8,.ptr 3 0 1 0 0),(10,.ptr 4 0 3 0 0),(24,.aB 3 ((aI E).map aJ) (aI E).length),(25,.v (.int .i64 ((aI E).length:Nat))),(26,.v (.int .i64 (i:Nat)))],[oX,oW,oM (if cH x=true then gb (B i) (v.1.1,v.1.1) v.2 else B i),oB,some ⟨37,3,false,[aJ v]⟩],.no⟩ zo zo ?_ ?_
   ·cases W:cH x
    ·rw[W]at EM;simp only[oX,oW,oM,oB,afC,if_false]
     ((iterate 3 revert K);refine ae ?_;iterate 5 intro K hK)
     ((iterate 5 revert K);refine aK EM ?_)
     simp only[aJ];simp only[bP,afO,afP,afU,afV,go_sem];refine ab ar (bJ ?_) ar
     all_goals first|exact eW _ _|exact⟨by rw[u,q];rfl,eW _ _⟩
    ·rw[W]at EM;simp only[oX,oW,oM,oB,if_true]
     ((iterate 3 revert K);refine ae ?_;iterate 5 intro K hK)
     ((iterate 5 revert K);refine aK EM ?_;iterate 4 intro K hK)
     refine ai.Uv (k:=(v.1.1,v.1.1)) rfl ?_
     ((iterate 4 revert K);refine ae ?_)
     simp only[aJ];simp only[bP,afO,afP,afU,afV,go_sem];refine ab ar (bJ ?_) ar
     all_goals first|exact eW _ _|exact⟨by rw[u,q];rfl,eW _ _⟩
   ·generalize(if cH x=true then gb (B i) (v.1.1,v.1.1) v.2 else B i)=b1 at *;simp only[oX,oW,oM,oB,aJ];simp only[bP,afO,afP,afU,afV,go_sem]
    ((iterate 3 revert K);refine ae ?_;iterate 5 intro K hK)
    ((iterate 5 revert K);refine aK (RC v.1.1) ?_;intro K hK K hK K hK)
    refine rA (RS v.1.1) 27 (λk=>[oX,oW,oM (IY (ic A) (λs=>bM A s) A.rows.length E v.1.1 b1 k),oB,some ⟨37,3,false,[aJ v]⟩]) (λk=>k<=(zU (ic A) A.rows.length E v.1.1).length) (Nat.zero_le _) ?_ ?_ ?_ zo zo ?_ ?_ ?_
    ·((iterate 3 revert K);exact sY)
    ·simp only[aU,AV.wf,u,q,agA]
    ·simp only[oX,oW,oM,oB,aJ];refine ab ar (bJ ?_) ar
     all_goals first|exact⟨by rw[u,q];rfl,rfl,eW _ _⟩
    ·intro y O;obtain⟨p,_,rfl⟩:=ag2.1 O
     rfl
    ·intro k y hk O
     have V:k<(zU (ic A) A.rows.length E v.1.1).length:=by
      have:=(List.getElem?_eq_some_iff.1 O).1
      simpa using this
     have hy2:y=LQ (zU (ic A) A.rows.length E v.1.1)[k]:=by
      rw[List.getElem?_map,List.getElem?_eq_getElem V]at O;exact(Option.some.inj O).symm
     have Y:=MS (tk:=λs=>bM A s) (b:=b1) V;clear O;subst hy2;generalize(zU (ic A) A.rows.length E v.1.1)[k]=p at *;have T:=TK (p.1.2:Nat);simp only[oX,oW,oM,oB,aJ,LQ,cJ]
     ((iterate 3 revert K);refine ae ?_;iterate 5 intro K hK)
     refine ai.one T ?_
     cases H:bM A (p.1.2:Nat)
     ·simp only[H,afC,if_false]at Y
      ((iterate 5 revert K);refine ak H ?_)
      rw[Y];refine ab ar (bJ ?_) ar
      all_goals first|exact⟨by rw[u,q];rfl,eW _ _⟩
     ·simp only[H,if_true]at Y
      ((iterate 5 revert K);refine ak H ?_;iterate 4 intro K hK)
      refine ai.Uv (k:=(v.1.1,p.1.1)) rfl ?_
      ((iterate 4 revert K);refine ae ?_)
      rw[Y];refine ab ar (bJ ?_) ar
      all_goals first|exact⟨by rw[u,q];rfl,eW _ _⟩
    ·intro _
     have eK:((zU (ic A) A.rows.length E v.1.1).map LQ).length=(zU (ic A) A.rows.length E v.1.1).length:=zk
     rw[eK, <- hS];simp only[oX,oW,oM,oB]
     ((iterate 3 revert K);refine ak ws ?_)
     refine aw.mk (i+1) h (show(aI E).length-(i+1)<(aI E).length-i by omega) ?_;simp only[oX,oW,oM,oB];simp only[bP,afO,afP,afU,afV,go_sem];refine ab ar (bJ ?_) ar
     all_goals first|exact⟨by rw[u,q];rfl,eW _ _⟩
  ·have e0:i=(aI E).length:=zd
   have d1:decide (((aI E).length:Int)<((aI E).length:Int))=false:=bi;simp only[e0,oX,oW,oM,oB]
   (revert K;revert K;refine jf 16 d1 ?_;intro K hK)
   have eB:B (aI E).length=fI ((aI E).flatMap (vY (ic A) (λs=>bM A s) (cH x) A.rows.length E)) []:=by
    show z7 _ _ _ _ _ _=_;rw[z7,agP]
   have PR:=Kw (B (aI E).length) (by rw[eB];exact(jr _ [] afb).1) (by have:=FU (tk:=λs=>bM A s) (em:=cH x) U (xZ he) hl ok.max (aI E).length;exact Nat.le_trans this zd)
   have eP:cz (B (aI E).length)=lL x A E:=by rw[eB];rfl
   rw[eP]at PR;refine bl (BH (k:=3) (i:=0) (j:=0) (id:=2) zs rfl zs rfl rfl rfl rfl rfl) zo ?_;simp only[List.set_cons_zero,List.set_cons_succ]
   (revert K;refine ae ?_;intro K hK K hK)
   refine ai.fr [] PR afb rfl ?_ ?_ (λk ob h=>by simp at h) ?_
   ·simp only[bV,AV.ba,bn _ _ (eW 0 _)]
   ·simp only[aU,AV.wf,eW,afo]
   simp only[fj,List.map_cons,List.map_nil,Option.map_some,Option.map_none,aa.ba,bn _ _ (bt 0 _),List.nil_append,agy]
   (revert K;revert K;refine ae ?_)
   exact⟨ek,ek,ek⟩
theorem BY(x:Ex)(E:Id)(H:x.ok)(U:∀e∈E,xr e)(hl:E.length<=31)(Y:∀A,fZ x (ct x)=.inl A->AOk A):aj prog 9 [.agg (aN x),.aB 5 (E.map aR) E.length] (tH x E):=by
 have NW:=OR x H;have eW:∀n l,bD n (cg bI l)=true:=λn l=>gn (λ_=>rfl) l;have EM:=wN x H;have VT:=Dq E zd;unfold IN at NW;unfold tH
 cases u:fZ x (ct x)with
 |inr e=>
  rw[u]at NW;have V:=uz u
  have O:iQ x E=e:=by rw[iQ,u]
  have OV:=Ug x e V E NW
  have z0:(e !=0)=true:=by simp[V]
  rw[O,if_neg V];rw[aA]at OV⊢;refine gE func9 ntmps9 results9 ?_
  (refine ae ?_;intro K hK K hK)
  (revert K;revert K;refine dA OV z0 ?_)
  (refine iG.of 40 rfl ?_;simp only[go_sem])
 |inl A=>
  rw[u]at NW;have ok:=Y A u
  have O:iQ x E=fb E:=by rw[iQ,u]
  have OV:=Qi x A E NW U zd;rw[O]
  by_cases q:fb E=0
  ·have W:gY x E=lL x A E:=by rw[gY,u];simp only[if_pos q]
   rw[if_pos q,W];rw[tF,if_pos q]at OV
   exact .ofG (Ec x A E H ok OV q hl) (by rw[aA];simp only[aU,AV.wf,df,bF,agA]) (by simp only[AV.wf,aU,bt,agA]) (by
    rintro r o ⟨rfl,rfl⟩
    exact bB.ck ⟨bB.sg (ob:=⟨37,3,true,(lL x A E).map aJ⟩) rfl rfl zk (bt _ _),bB.v _,trivial⟩)
  ·rw[if_neg q];rw[tF,if_neg q]at OV
   have z0:(fb E !=0)=true:=by simp[q]
   rw[aA]at OV⊢;refine gE func9 ntmps9 results9 ?_
   (refine ae ?_;intro K hK K hK)
   (revert K;revert K;refine dA OV z0 ?_)
   (refine iG.of 40 rfl ?_;simp only[go_sem])
open Go.RowKit Go.Shelf
section
open Go.Maps Go.Sort Go.WideElems
def ad9(r:bC):List (Lit×DataW Unit):=r.map (λp=>(.string p.1.data.toList,.lit (.int .i64 (p.2:Nat))))
def adt(r s:bC):Bool:=decide (r.length=s.length)&&r.all (λp=>look s p.1==some p.2)
end
structure LOk(A:oZ):Prop extends AOk A where
 nd:A.labs.Nodup
 sz:∀l∈A.labs,l.size<=20
 few:A.labs.length<=24
theorem mX:∀{l m:B0},lZ l->lZ m->(∀s,s∈l↔s∈m)->l=m
 | [],[],_,_,_=>rfl
 | [],b::m,_,_,h=>absurd ((h b).2 zk) zk
 |a::l,[],_,_,h=>absurd ((h a).1 zk) zk
 |a::l,b::m,H,A,h=>by
  rw[lZ,agi]at H A;have irr:∀x:List UInt8, ¬x<x:=λx=>List.lt_irrefl _
  have O:a=b:=by
   rcases afZ.1 ((h a).1 zk)with e|V
   ·exact e
   ·rcases afZ.1 ((h b).2 zk)with e|U
    ·exact e.symm
    ·exact absurd (List.lt_trans (H.1 b U) (A.1 a V)) (irr _)
  subst O
  refine congrArg _ (mX H.2 A.2 λs=>⟨λu=>?_,λu=>?_⟩)
  ·rcases afZ.1 ((h s).1 (ae7 _ u))with e|q
   ·subst e;exact absurd (H.1 _ u) (irr _)
   ·exact q
  ·rcases afZ.1 ((h s).2 (ae7 _ u))with e|q
   ·subst e;exact absurd (A.1 _ u) (irr _)
   ·exact q
theorem TL{x:Ex}{l:B0}(h:lZ l)(q:∀s,s∈aH x↔s∈l):ct x=l:=mX (qy x) h λs=>pJ.trans (q s)
def ta:ByteArray:=⟨#[97]⟩
def tb:ByteArray:=⟨#[98]⟩
def exL(s:ByteArray):Ex:= .mk 1 s []
mutual
def sX:Ex->Nat->Nat
 | .mk _ _ l,deep=>if 60<deep then 301 else sL l (deep+1) 1
def sL:IO->Nat->Nat->Nat
 | [],_,n=>n
 |x::xs,d,n=>if n<=300 then sL xs d (n+sX x d)else n
end
mutual
theorem W7:∀(x:Ex)(d:Nat),d<=61->1<=sX x d∧sX x d<=301+300*(61-d)
 | .mk _ _ l,d,h=>by
  rw[sX]
  split
  ·omega
  ·have:=Q0 l (d+1) 1 zd;omega
theorem Q0:∀(l:IO)(d n:Nat),d<=61->n<=sL l d n∧sL l d n<=max n (601+300*(61-d))
 | [],d,n,h=>by rw[sL];omega
 |x::xs,d,n,h=>by
  rw[sL]
  split
  ·have u:=W7 x d h;have q:=Q0 xs d (n+sX x d) h;omega
  ·omega
end
def grN(a b:Ex):Nat:=if sX a 0<=300 then sX a 0+sX b 0 else sX a 0
def ab6(w:B0)(a b:Ex):Bool:=decide (300<grN a b)||decide (30<w.length)
noncomputable def partAt(p q:B0->Bool)(w:B0)(n:Nat):Bool:=(List.range n).any (λk=>p (w.take k)&&q (w.drop k))
section
variable {a b:Ex} (ha:aD a=true) (hb:aD b=true) (na:(aq a).length<=11) (nb:(aq b).length<=11)
include ha hb na nb
omit hb nb
end
theorem JU{x:Ex}{A:oZ}(h:fZ x (ct x)=.inl A):aD x=true∧A.labs=ct x∧NK x A∧LOk A:=by
 have q:aD x=true:=by
  cases q:aD x
  ·rw[fZ,q]at h;simp at h
  ·rfl
 have L:=Lt q (kQ x) (C8 q) (λl hl=>pJ.2 hl) h
 have e:A.labs=ct x:=by
  rw[fZ,if_pos q]at h
  split at h
  ·split at h
   ·cases h
   ·simp only[Sum.inl.injEq]at h;rw[<-h];rfl
  ·cases h
 exact⟨q,e,L,{L.toAOk with nd:=by rw[e];exact kQ x,sz:=by rw[e];exact Kj q,few:=by rw[e];exact C7 q}⟩
theorem Vu{s:ByteArray}(h:s.size<=100):wG s:=by unfold wG;omega
mutual
def H7:Ex->C5
 | .mk k s l=>[.v (.int .i64 k),.v (.string s),if l.isEmpty then .v (.slice none 0 0)else .aB 3 (EO l) l.length]
def EO:IO->List C5
 | []=>[]
 |x::xs=>H7 x::EO xs
end
theorem EP:∀l:IO,EO l=l.map H7
 | []=>rfl
 |x::xs=>by rw[EO,EP xs];rfl
theorem Tl(x:Ex):zN (H7 x) (aN x):=by
 induction x using Ex.ind with
 |h k s l ih=>
  rw[H7,aA];refine .cons (.refl _) (.cons (.refl _) (.cons ?_ .nil))
  cases l with
  |nil=>exact .nil 3
  |cons y l=>
   have:=Le.rows (z:=3) (f:=H7) (g:=aN) (xs:=y::l) (more:=[]) ih
   rw[agy]at this;rw[EP];exact this
def tx:ByteArray:=⟨#[120]⟩
def tc:ByteArray:=⟨#[99]⟩
def J8:Ex:= .mk 4 ⟨#[]⟩ [exL tx]
def auS:oZ:=⟨[[(tx,0)]],[true],[tx]⟩
def OW:Id:=[⟨ta,tb,tx,5,[]⟩,⟨tb,tc,tx,3,[]⟩]
def paS:PL:=[((ta,ta),5),((ta,tb),5),((ta,tc),3),((tb,tb),5),((tb,tc),3),((tc,tc),3)]
theorem Zf:ct J8=[tx]:=TL (by simp[lZ]) (λs=>by rw[show aH J8=[tx] by kernel_rfl])
theorem YI:fZ J8 (ct J8)=.inl auS:=by rw[Zf];kernel_rfl
theorem Un:iQ J8 OW=0:=by rw[iQ,YI];kernel_rfl
theorem WL:gY J8 OW=paS:=by
 rw[gY,YI];show(if fb OW=0 then lL J8 auS OW else [])=paS;rw[if_pos zo]
 kernel_rfl
theorem tI(x:Ex):∀A,fZ x (ct x)=.inl A->AOk A:=λA h=>(JU h).2.2.1.toAOk
def XG(a b l:ByteArray)(t:Int):C5:=[.v (.string a),.v (.string b),.v (.string l),.v (.int .i64 t),.v (.slice none 0 0)]
theorem OU(a b l:ByteArray)(t:Int):zN (XG a b l t) (aR ⟨a,b,l,t,[]⟩):= .cons (.refl _) (.cons (.refl _) (.cons (.refl _) (.cons (.refl _) (.cons (.nil 4) .nil))))
theorem Wd:Le (.aB 5 [XG ta tb tx 5,XG tb tc tx 3] 2) (.aB 5 (OW.map aR) OW.length):=by
 refine .aB _ _ _ _ (by simp[OW]) (by simp[OW]) (λi r U q u=>?_) (λi j r U c O q u H A=>?_)
 ·match i,q,u with
  |0,q,u=>cases q;cases u;rfl
  |1,q,u=>cases q;cases u;rfl
  |i+2,q,u=>simp at q
 ·match i,q,u with
  |0,q,u=>cases q;cases u;exact(OU _ _ _ _).2 j c O H A
  |1,q,u=>cases q;cases u;exact(OU _ _ _ _).2 j c O H A
  |i+2,q,u=>simp at q
theorem Lu:aj prog 7 [] (.v (.bool true)):=by
 have oS:J8.ok:=by simp only[J8,exL,Ex.ok,vQ,and_true];exact⟨Vu zs,Vu zs⟩
 have oE:∀e∈OW,xr e:=λe q=>by
  simp only[OW,afZ,agc,or_false]at q
  rcases q with rfl|rfl<;>exact⟨by show _<=maxLen;unfold maxLen;decide,by show _<=maxLen;unfold maxLen;decide,by show _<=maxLen;unfold maxLen;decide,λp U=>(by cases U),zk⟩
 have PS:=(BY J8 OW oS oE zs (tI J8)).le (args':=[.agg (H7 J8),.aB 5 [XG ta tb tx 5,XG tb tc tx 3] 2]) rfl (.cons (Tl J8).agg (.cons Wd .nil));rw[tH,Un,if_pos rfl,WL]at PS;have O:=Ms tx;have A:=Gi ta tb tx 5;have u:=Gi tb tc tx 3;have H:=WC 4 [[.v (.int .i64 1),.v (.string tx),.v (.slice none 0 0)]] 1 rfl;have SM:=pY paS zs;simp only[J8,exL,H7,EO,List.isEmpty_nil,List.isEmpty_cons,afa,aeq,Nat.reduceAdd,if_true,afC,if_false,XG,ta,tb,tc,tx,paS,aJ,List.map_cons,List.map_nil]at PS O A u H SM;refine gE func7 ntmps7 results7 ?_
 (refine ae ?_;intro K hK K hK)
 (revert K;revert K;refine aK O ?_;intro K hK K hK)
 refine ai.Wl H rfl (by simp only[go_sem,Nat.reduceLT,Nat.reduceLeDiff,Nat.reduceEqDiff,agB,agC,and_self]) ?_
 (revert K;revert K;refine ae ?_;intro K hK K hK)
 (revert K;revert K;refine aK A ?_;intro K hK K hK)
 (revert K;revert K;refine aK u ?_;intro K hK K hK)
 refine ai.Wl PS rfl (by simp only[go_sem,Nat.reduceLT,Nat.reduceLeDiff,Nat.reduceEqDiff,agB,agC,and_self]) ?_
 (revert K;revert K;refine ae ?_;intro K hK K hK)
 refine ai.Wl SM rfl (by simp only[go_sem,Nat.reduceLT,Nat.reduceLeDiff,Nat.reduceEqDiff,agB,agC,and_self]) ?_
 (revert K;revert K;exact sY)
open Go.ChangeShapes Go.WideShapes Go.ChangeAt Go.RowKit
section
variable {H:Type} {enc:TypeId×Value->H} {w:World}
instance:Inhabited uh:=⟨⟨⟨#[]⟩,⟨0,0,⟨#[]⟩⟩⟩⟩
instance:Inhabited bH:=⟨⟨⟨#[]⟩,⟨#[]⟩,⟨#[]⟩,0,[]⟩⟩
def uh.cells(p:uh):IR:=[.string p.key,.int .i64 p.val.kind,.int .i64 p.val.num,.string p.val.text]
def JI(p:uh)(cs:IR):Prop:=cs=p.cells
def uh.ok(p:uh):Prop:=wG p.key∧p.val.ok
def NZ(w:World)(e:bH)(cs:IR):Prop:=∃sv,gJ w 4 JI e.props sv∧cs=[.string e.bP,.string e.to,.string e.label,.int .i64 e.time,sv]
structure bH.ok(e:bH):Prop where
 bP:wG e.bP
 to:wG e.to
 label:wG e.label
 props:∀p∈e.props,p.ok
 len:e.props.length<=140737488355328
theorem bH.ok.aaw{e:bH}(h:e.ok)(hl:e.props.length<=16777216):xr e:=by
 have V:=h.bP;have U:=h.to;have O:=h.label;unfold wG at V U O;refine⟨by unfold maxLen;omega,by unfold maxLen;omega,by unfold maxLen;omega,λp A=>?_,hl⟩;obtain⟨u,q⟩:=h.props p A;unfold Ef.ok at q;unfold wG at u q;exact⟨by unfold maxLen;omega,by unfold maxLen;omega⟩
theorem acf:Nk prog 173=some [(9,0,1),(171,1,3)]:=zo
theorem YM:prog.cellsOf 173=4:=zo
theorem ace:Nk prog 35=some [(9,0,1),(9,1,1),(9,2,1),(3,3,1),(33,4,1)]:=zo
theorem YL:prog.cellsOf 35=5:=zo
theorem aaA:prog.underlying 33=some (.slice 173):=zo
theorem Vz:prog.underlying 26=some (.slice 35):=zo
theorem ab2:0<prog.bytesOf 173:=of_decide_eq_true zo
theorem ab1:0<prog.bytesOf 35:=of_decide_eq_true zo
theorem Xh{n:Nat}{cs:IR}(h:Td enc prog w n 173 cs):∃x:uh,JI x cs∧x.ok:=by
 obtain⟨m,_,hl,q⟩:=ni acf h;rw[YM]at hl
 match cs,hl with
 | [a,b,c,d],_=>
  obtain⟨s,e0,O⟩:=vu Jm (q 0 _ _ _ rfl);obtain⟨⟨v1,v2,v3⟩,u,A⟩:=Xi (q 1 _ _ _ rfl)
  obtain rfl:a=_:=by simpa using e0
  simp only[List.drop_succ_cons,List.drop_zero,List.take_succ_cons,List.take_zero,Ef.cells,List.cons.injEq,and_true]at u;obtain⟨rfl,rfl,rfl⟩:=u;exact⟨⟨s,v1,v2,v3⟩,rfl,O,A⟩
theorem Xg{n:Nat}{cs:IR}(h:Td enc prog w n 35 cs):∃x:bH,NZ w x cs∧x.ok:=by
 obtain⟨m,_,hl,q⟩:=ni ace h;rw[YL]at hl
 match cs,hl with
 | [a,b,c,d,e],_=>
  obtain⟨s0,e0,Y⟩:=vu Jm (q 0 _ _ _ rfl);obtain⟨s1,e1,W⟩:=vu Jm (q 1 _ _ _ rfl);obtain⟨s2,e2,V⟩:=vu Jm (q 2 _ _ _ rfl);obtain⟨k,e3,_⟩:=DM aaz (q 3 _ _ _ rfl);obtain⟨ps,U,u,A⟩:=Ji aaA YM zd ab2 (q 4 _ _ _ rfl) (rd:=JI) (okx:=uh.ok) (λm' cs' hm O=>Xh O);cases e0;cases e1;cases e2;cases e3;exact⟨⟨s0,s1,s2,k,ps⟩,⟨e,U,rfl⟩,Y,W,V,u,A⟩
theorem Ry{a:Option Addr}{len cap:Nat}{d:DataW H}{ps:List MemPlace}(h:DataW.Trod enc prog w 0 (λ_=>true) true 26 (.slice a len cap) d ps)(u:∀k∈d.weights prog 26,k<=reachBytes) :
  ∃(l:Id),gJ w 5 (NZ w) l (.slice a len cap)∧(∀s,s∈l->s.ok)∧l.length<=140737488355328:=by
 obtain⟨n,h⟩:=h;have A:Td enc prog w n 26 [.slice a len cap]:=⟨_,h,u⟩;exact Ji Vz YL zd ab1 A (rd:=NZ w) (okx:=bH.ok) (λU O V q=>Xg q)
variable {D:Nat->Prop} {nu:EQ}
theorem Ut(u:∀b,b<w.heap.size->D b){l:Rd}{v:Value}(h:gJ w 4 JI l v):RA D nu [] w (.aB 4 (l.map cX) l.length) v:=
 RA.Dm u zd h (λ_=>rfl) (λx _ cs q=>by subst q;exact⟨we x.cells,by simp[uh.cells,Value.oneCell']⟩)
theorem YS(V:∀b,b<w.heap.size->D b)(e:bH)(cs:IR)(h:NZ w e cs):Sn D nu [] w (aR e) cs∧∀y∈cs,y.oneCell'=true:=by
 obtain⟨sv,h,rfl⟩:=h;have O:=Ut (nu:=nu) V h;have U:=F3 h
 refine⟨⟨rfl,λj c y q u=>?_⟩,λy A=>by
  simp only[afZ,agc,or_false]at A
  rcases A with rfl|rfl|rfl|rfl|rfl<;>first|rfl|exact U⟩
 match j,q,u with
 |0,q,u=>cases q;cases u;exact .v _
 |1,q,u=>cases q;cases u;exact .v _
 |2,q,u=>cases q;cases u;exact .v _
 |3,q,u=>cases q;cases u;exact .v _
 |4,q,u=>cases q;cases u;exact O
 |j+5,q,u=>simp[aR]at q
theorem We(q:∀b,b<w.heap.size->D b){l:Id}{v:Value}(h:gJ w 5 (NZ w) l v):RA D nu [] w (.aB 5 (l.map aR) l.length) v:=
 RA.Dm q zd h (λ_=>rfl) (λx _ cs u=>YS q x cs u)
end
def fH:PL->K2×Int->PL
 | [],p=>[p]
 |q::l,p=>if pg q.1 p.1 then q::fH l p else if q.1=p.1 then(q.1,max q.2 p.2)::l else p::q::l
def cI(l:PL)(p:K2×Int):Nat:=(l.takeWhile (λq=>decide (pg q.1 p.1))).length
theorem CX(l:PL)(p:K2×Int):cI l p<=l.length:=(List.takeWhile_prefix _).length_le
theorem Kg:∀(l:PL)(p:K2×Int)(j:Nat)(h:j<l.length),j<cI l p->pg l[j].1 p.1
 |q::l,p,0,_,u=>by
  by_cases h:pg q.1 p.1
  ·exact h
  ·simp[cI,h]at u
 |q::l,p,j+1,h,u=>by
  by_cases A:pg q.1 p.1
  ·simp only[cI,List.takeWhile_cons,A,decide_true,if_true,afa]at u;exact Kg l p j (by simpa using h) (by simp only[cI];omega)
  ·simp[cI,A]at u
theorem CU:∀(l:PL)(p:K2×Int)(h:cI l p<l.length), ¬pg l[cI l p].1 p.1
 |q::l,p,h=>by
  by_cases u:pg q.1 p.1
  ·have e:cI (q::l) p=cI l p+1:=by simp[cI,u]
   have:=CU l p (by simp only[e,afa]at h;omega)
   simpa only[e,List.getElem_cons_succ]using this
  ·have e:cI (q::l) p=0:=by simp[cI,u]
   simpa only[e,List.getElem_cons_zero]using u
theorem xi:∀(l:PL)(p:K2×Int),fH l p=if h:cI l p<l.length then(if l[cI l p].1=p.1 then l.set (cI l p) (l[cI l p].1,max l[cI l p].2 p.2)else l.take (cI l p)++p::l.drop (cI l p))else l++[p]
 | [],p=>by simp[fH]
 |q::l,p=>by
  by_cases u:pg q.1 p.1
  ·have e:cI (q::l) p=cI l p+1:=by simp[cI,u]
   rw[fH,if_pos u,xi l p]
   grind
  ·have e:cI (q::l) p=0:=by simp[cI,u]
   rw[fH,if_neg u,dif_pos (by simp[e])]
   grind
theorem FV:∀{l:PL}{p:K2×Int}{q:K2×Int},q∈fH l p->q.1=p.1∨q∈l
 | [],p,q,h=>by grind[fH]
 |a::l,p,q,h=>by
  rw[fH]at h
  split at h
  ·rcases afZ.1 h with rfl|h
   ·exact .inr List.mem_cons_self
   ·rcases FV h with h|h
    ·exact .inl h
    ·exact .inr (ae7 _ h)
  ·split at h
   ·rename_i he
    rcases afZ.1 h with rfl|h
    ·exact .inl he
    ·exact .inr (ae7 _ h)
   ·rcases afZ.1 h with rfl|h
    ·exact .inl rfl
    ·exact .inr h
theorem Bj:∀{l:PL}(p:K2×Int),ez l->ez (fH l p)
 | [],p,_=>by simp[fH,ez]
 |a::l,p,h=>by
  have H:=h;rw[ez,agi]at h;rw[fH]
  split
  ·rename_i hq;rw[ez,agi];refine⟨λq u=>?_,Bj p h.2⟩
   rcases FV u with e|e
   ·rw[e];exact hq
   ·exact h.1 q e
  ·rename_i hq
   split
   ·rw[ez,agi];exact h
   ·rename_i hne
    have A:pg p.1 a.1:=by
     rcases nK a.1 p.1 with q|q|q
     ·exact absurd q hq
     ·exact absurd q hne
     ·exact q
    rw[ez,agi];refine⟨λq u=>?_,H⟩
    rcases afZ.1 u with rfl|u
    ·exact A
    ·exact iK A (h.1 q u)
theorem SU{l:PL}{k:K2}(h:∀q∈l,pg k q.1):bU l k=none:=by
 induction l with
 |nil=>rfl
 |cons a l ih=>
  rw[bU,if_neg (λe=>eo k (by grind)),ih λq u=>h q (ae7 _ u)]
theorem FW:∀{l:PL}(p:K2×Int)(j:K2),ez l->bU (fH l p) j=if p.1=j then some (match bU l p.1 with|some nZ=>max nZ p.2|none=>p.2)else bU l j
 | [],p,j,_=>by simp[fH,bU]
 |a::l,p,j,h=>by
  have V:=h;rw[ez,agi]at h;rw[fH]
  split
  ·rename_i A;have u:a.1≠p.1:=λe=>eo _ (e ▸ A);rw[bU,FW p j h.2,bU,if_neg u,bU]
   grind
  ·rename_i A
   split
   ·rename_i U;rw[bU,bU,if_pos U,bU]
    grind
   ·rename_i u
    have O:pg p.1 a.1:=by
     grind[nK]
    have hn:bU (a::l) p.1=none:=SU λq H=>by
     grind[iK]
    rw[bU,hn]
def mg(L:PL)(l:PL):PL:=L.foldl fH l
theorem Bl:∀(L:PL)(l b:PL),ez l->(∀j,bU l j=bU b j)->ez (mg L l)∧∀j,bU (mg L l) j=bU (fI L b) j
 | [],l,b,h,q=>⟨h,q⟩
 |p::L,l,b,h,q=>Bl L (fH l p) (gb b p.1 p.2) (Bj p h) λj=>by
  grind[FW,Ew]
theorem QR{l:PL}(h:ez l):(l.map Prod.fst).Nodup:=by
 rw[List.Nodup,List.pairwise_map];exact List.Pairwise.imp (R:=λa b:K2×Int=>pg a.1 b.1) (λ{a b}hab(e:a.1=b.1)=>eo b.1 (by grind)) h
theorem FY(L:PL):mg L []=cz (fI L []):=by
 obtain⟨u,q⟩:=Bl L [] [] List.Pairwise.nil λ_=>rfl
 grind[jr,afb,oC,lM,cL,j4,QR]
theorem RH(E:Id):mg (iU E) []=aI E:=FY _
theorem mT(L M l:PL):mg (L++M) l=mg M (mg L l):=List.foldl_append
theorem FX(l:PL)(p:K2×Int):(fH l p).length<=l.length+1:=by
 grind[xi]
theorem qB:∀(L l:PL),(mg L l).length<=l.length+L.length
 | [],l=>by simp[mg]
 |p::L,l=>by
  have q:=qB L (fH l p);have u:=FX l p;simp only[mg,afO,afa]at q⊢; omega
section
variable (st:Nat->ByteArray->Option Nat) (E:Id) (root:ByteArray)
abbrev NL:=L1
def atR(e:bH)(l:NL):Nat->Nd×Int
 |0=>((root,0),e.time)
 |j+1=>l.getD j (([].toByteArray,0),0)
def NB(e:bH)(s:NL×Bool)(j:Nat):NL×Bool:=
 if(atR root e s.1 j).1.1=e.bP then
  match st (atR root e s.1 j).1.2 e.label with
  |some t=>(gb s.1 (e.to,t) (min (atR root e s.1 j).2 e.time),s.2||dW s.1 (e.to,t) (min (atR root e s.1 j).2 e.time))
  |none=>s
 else s
def JA(e:bH)(l:NL)(j:Nat):Prop:=∀t,(atR root e l j).1.1=e.bP->st (atR root e l j).1.2 e.label=some t->dW l (e.to,t) (min (atR root e l j).2 e.time)=false
structure NI(n:Nat)(l:NL):Prop where
 nd:(l.map Prod.fst).Nodup
 jw:∀p∈l,DZ st E p.2 root p.1.1 p.1.2
 key:∀p∈l,p.1∈jB n E
 tim:∀p∈l,∃e∈E,e.time=p.2
def RI(i j:Nat)(l:NL)(m:Bool):Prop:=m=false->(∀k(h:k<E.length),k<i->∀q,q<=l.length->JA st root E[k] l q)∧∀h:i<E.length,∀q,q<j->JA st root E[i] l q
def wa(l:NL):Nat:=(l.map λp=>1+E.countP (λe=>decide (e.time<p.2))).sum
end
section
variable {st:Nat->ByteArray->Option Nat} {E:Id} {root:ByteArray} {n:Nat}
theorem V8{e:bH}{l:NL}{j:Nat}(q:j<=l.length):(atR root e l j=((root,0),e.time)∧j=0)∨∃h:j-1<l.length,j=j-1+1∧atR root e l j=l[j-1]:=by
 cases j with
 |zero=>exact .inl ⟨rfl,rfl⟩
 |succ j=>
  right;refine⟨zd,zd,?_⟩;show l.getD j _=l[j]
  grind
theorem NI.nil:NI st E root n []:=⟨afb,λp h=>absurd h agc,λp h=>absurd h agc,λp h=>absurd h agc⟩
theorem NI.len{l:NL}(h:NI st E root n l):l.length<=E.length*n:=by
 have A:(l.map Prod.fst).length<=(jB n E).length:=h.nd.length_le_of_subset λk u=>by
  obtain⟨p,q,rfl⟩:=ag2.1 u;exact h.key p q
 grind[List.length_map,qm]
theorem Qt{l:NL}(h:NI st E root n l):wa E l<=E.length*n*(1+E.length):=by
 have:∀l:NL,wa E l<=l.length*(1+E.length):=λl=>by
  induction l with
  |nil=>simp[wa]
  |cons a l ih=>
   grind[decide,List.countP_le_length,wa,afa,Nat.succ_mul]
 exact Nat.le_trans (this l) (Nat.mul_le_mul_right _ h.len)
theorem LJ{a b:Int}(h:a<b){e:bH}(q:e∈E)(H:e.time=a):E.countP (λe=>decide (e.time<a))<E.countP (λe=>decide (e.time<b)):=by
 obtain⟨s,t,rfl⟩:=List.append_of_mem q
 have A:∀l:Id,l.countP (λe=>decide (e.time<a))<=l.countP (λe=>decide (e.time<b)):=λl=>List.countP_mono_left λx _ u=>by grind
 grind
theorem Kx:∀{l:NL}{k:Nd}{t:Int},dW l k t=true->(∀p∈l,∃e∈E,e.time=p.2)->wa E l<wa E (gP l k t)
 | [],k,t,_,_=>by grind[wa,gP]
 |p::l,k,t,h,A=>by
  rw[gP]
  by_cases u:p.1=k
  ·rw[if_pos u];rw[dW,bU,if_pos u]at h
   have h:p.2<t:=by simpa using h
   obtain⟨e,O,U⟩:=A p List.mem_cons_self
   have:=LJ h O U
   grind[wa]
  ·rw[if_neg u];rw[dW,bU,if_neg u]at h
   have:=Kx (l:=l) (k:=k) (t:=t) h λq H=>A q (ae7 _ H)
   grind[wa]
theorem RE{e:bH}(hst:∀s l t,st s l=some t->t<n)(he:e∈E){l:NL}{m:Bool}{j:Nat}(hj:j<=l.length)(h:NI st E root n l) :
  NI st E root n (NB st root e (l,m) j).1∧l.length<=(NB st root e (l,m) j).1.length∧((NB st root e (l,m) j).2=false->m=false∧(NB st root e (l,m) j).1=l∧JA st root e l j)∧wa E l<=wa E (NB st root e (l,m) j).1∧(m=false->(NB st root e (l,m) j).2=true->wa E l<wa E (NB st root e (l,m) j).1):=by
 have stay:∀q:Prop,(¬q∨True):=λ_=> .inr trivial;simp only[NB]
 split
 ·rename_i O
  cases U:st (atR root e l j).1.2 e.label with
  |none=>exact⟨h,aen _,λA=>⟨A,rfl,λt _ ht=>by grind⟩,aen _,λY h2=>by grind⟩
  |some t=>
   simp only
   cases hb:dW l (e.to,t) (min (atR root e l j).2 e.time)with
   |false=>
    rw[gb,hb];simp only[Bool.or_false,afC,if_false];exact⟨h,aen _,λA=>⟨A,trivial,λt' _ ht=>by grind⟩,aen _,λY h2=>by grind⟩
   |true=>
    have V:=Kx hb h.tim;rw[gb,hb];simp only[Bool.or_true,if_true]
    have hw:DZ st E (min (atR root e l j).2 e.time) root e.to t∧∃e'∈E,e'.time=min (atR root e l j).2 e.time:=by
     rcases V8 (root:=root) (e:=e) hj with⟨ha,hj0⟩|⟨W,_,ha⟩
     ·rw[ha]at O U⊢;exact⟨.one e t he zd O.symm U,e,he,zd⟩
     ·rw[ha]at O U⊢;have Y:=h.jw _ (afy W);rw[O]at Y;refine⟨.more e _ t (Y.less zd) he zd U,?_⟩;obtain⟨e2,he2,h2⟩:=h.tim _ (afy W)
      grind
    have H:∀p∈gP l (e.to,t) (min (atR root e l j).2 e.time),p=((e.to,t),min (atR root e l j).2 e.time)∨p∈l:=λp u=>by
     obtain⟨k,τ⟩:=p
     have:=(j4 (wS (e.to,t) (min (atR root e l j).2 e.time) h.nd)).2 u
     rw[j5]at this
     split at this
     ·grind
     ·right;exact(j4 h.nd).1 this
    refine⟨⟨wS _ _ h.nd,λp u=>?_,λp u=>?_,λp u=>?_⟩,?_,λA=>by simp at A,zd,λ_ _=>V⟩
    ·rcases H p u with rfl|u
     ·exact hw.1
     ·exact h.jw p u
    ·rcases H p u with rfl|u
     ·exact j6 hst e he _ t U
     ·exact h.key p u
    ·rcases H p u with rfl|u
     ·exact hw.2
     ·exact h.tim p u
    ·have:=congrArg List.length (uB l (e.to,t) (min (atR root e l j).2 e.time))
     grind
 ·rename_i O;exact⟨h,aen _,λA=>⟨A,rfl,λt ht _=>absurd ht O⟩,aen _,λY h2=>by grind⟩
theorem RI.step(q:∀s l t,st s l=some t->t<n){i:Nat}(hi:i<E.length){l:NL}{m:Bool}{j:Nat}(A:j<=l.length)(h:NI st E root n l)(r:RI st E root i j l m):RI st E root i (j+1) (NB st root E[i] (l,m) j).1 (NB st root E[i] (l,m) j).2:=λu=>by
 obtain⟨_,_,O,_⟩:=RE (m:=m) q (afy hi) A h;obtain⟨H,Y,W⟩:=O u;obtain⟨V,U⟩:=r H
 grind
theorem RI.jb{i j:Nat}(hi:i<E.length){l:NL}{m:Bool}(H:l.length<j)(r:RI st E root i j l m):RI st E root (i+1) 0 l m:=λq=>by
 obtain⟨A,u⟩:=r q
 grind
theorem RI.zero(l:NL):RI st E root 0 0 l false:=λ_=>⟨λk _ A=>absurd A (Nat.not_lt_zero _),λ_ q u=>absurd u (Nat.not_lt_zero _)⟩
theorem RI.fin{l:NL}(h:NI st E root n l)(r:RI st E root E.length 0 l false):rh st E root l:=by
 have O:∀e∈E,∀q,q<=l.length->JA st root e l q:=λe he q Y=>by
  obtain⟨k,u,rfl⟩:=ahk.1 he;exact(r rfl).1 k u u q Y
 have get:∀{k:Nd}{t:Int},dW l k t=false->∃σ,(k,σ)∈l∧t<=σ:=λ{k t}hb=>by
  rw[dW]at hb
  cases H:bU l k with
  |none=>grind
  |some nZ=>rw[H]at hb;exact⟨nZ,(j4 h.nd).1 H,by grind⟩
 refine⟨h.nd,h.jw,fun τ v s hR=>?_⟩
 induction hR with
 |one e s A h2 U h4=>
  obtain⟨σ,W,V⟩:=get (O e A 0 (Nat.zero_le _) s U.symm h4)
  grind[atR]
 |more e s t _ A h2 U ih=>
  obtain⟨ρ,i1,i2⟩:=ih;obtain⟨k,u,hke⟩:=ahk.1 i1
  have ha:atR root e l (k+1)=((e.bP,s),ρ):=by
   show l.getD k _=_
   grind
  obtain⟨σ,W,V⟩:=get (O e A (k+1) u t (by rw[ha]) (by grind))
  grind
end
end
end Go.Proofs.YtlhhccmopfamhaaGreatDoor
