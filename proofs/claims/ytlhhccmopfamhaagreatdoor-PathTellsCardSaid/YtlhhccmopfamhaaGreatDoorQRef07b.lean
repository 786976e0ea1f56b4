/- texts of one claim, one behind the other. -/
import Derived.Test.YtlhhccmopfamhaaGreatDoorQGo
import Derived.Test.YtlhhccmopfamhaaGreatDoorQRefP
import Derived.Test.YtlhhccmopfamhaaGreatDoorQDfaQ
import Derived.Test.YtlhhccmopfamhaaGreatDoorQEdgW
import Derived.Test.YtlhhccmopfamhaaGreatDoorQExprC
import Derived.Test.YtlhhccmopfamhaaGreatDoorQMat
import Derived.Test.YtlhhccmopfamhaaGreatDoorQValue
set_option linter.unusedSimpArgs false
set_option linter.unusedVariables false
set_option maxRecDepth 100000
set_option maxHeartbeats 16000000
open List renaming length_set -> aha, take_of_length_le -> agS, map_set -> agz, map_append -> agY, map_cons -> aga, length_map -> agG, set_cons_zero -> afS, set_cons_succ -> afR, length_cons -> afa, length_nil -> aeq, cons_append -> afK, replicate_succ -> afU, replicate_zero -> afV, getElem?_cons_zero -> afD, getElem?_cons_succ -> afE, foldl_cons -> afO, foldl_nil -> afP, lt_irrefl -> agf, getD_eq_getElem?_getD -> ae2, getElem?_map -> aeE, getElem?_eq_getElem -> aeC, getElem_mem -> afy, findIdx?_cons -> aho, mem_cons_of_mem -> ae7, foldl_append -> agH, findIdx?_eq_some_iff_getElem -> afv, take_succ_eq_append_getElem -> agO, nil_append -> afJ, drop_eq_getElem_cons -> af7, all_eq_true -> afh, getElem_of_mem -> agn
open Nat renaming zero_le -> aex, not_lt_zero -> ahl, lt_or_ge -> aes, lt_succ_iff_lt_or_eq -> ahm
open Bool renaming and_assoc -> ahn, and_self -> agA, and_true -> afo, true_and -> afu, false_and -> afL, false_eq_true -> afC, and_false -> afW, eq_iff_iff -> agj, and_eq_true -> ae6, not_eq_true -> ae1
open List.cons renaming injEq -> agv
namespace Go.Proofs.YtlhhccmopfamhaaGreatDoor
open Go.RowKit
open Go.Proofs.Tryz
section
variable {P:Program}
theorem bR.mv{f:FuncId}{args:C5}{o o1:AC}{id n:Nat}{ob:aa}(h:bR P f args o (.vec id n) o1)(Y:o1[id]?=some (some ob))(V:ob.fe=true)(hn:ob.rows.length=n):bR P f args o (.vec o1.length n) (o1.set id none++[some ob]):=
 ⟨h.1,λD nu w vargs O U=>(h.2 D nu w vargs O U).mono (by
  rintro e w' ⟨v,nu',o',r',rfl,hm,W,H,rfl,rfl⟩;subst hn;obtain⟨ad,cap,c1,c2,c3,c4,A,u⟩:=J1 W Y V (Nat.le_refl _);rw[List.take_length]at A u
  have ex:v=nu' id ob.rows.length:=by cases H;rfl
  rw[c1]at ex;subst ex;have q:=RA.vec (D:=D) (nu:=iD nu' o'.length (.slice ad ob.rows.length cap)) (o:=o'.set id none++[some ob]) (w:=w') o'.length ob.rows.length ⟨some ob,by rw[<-aha (i:=id) (a:=none),List.getElem?_concat_length],λx H=>by cases H;simp[aa.hl,V]⟩ (by rw[bW];rfl);rw[bW]at q
  exact⟨_,_,_,_,rfl,hm.trans A,u,q,rfl,rfl⟩)⟩
end
theorem qu{l:PL}{i:Nat}(h:i<l.length):(l.map aJ).getD i []=[.v (.string l[i].1.1),.v (.string l[i].1.2),.v (.int .i64 l[i].2)]:=by
 rw[getD_map aJ l i [] h];rfl
theorem MU{l:PL}{p:K2×Int}(h:cI l p<l.length)(q:l[cI l p].1=p.1):fH l p=l.set (cI l p) (l[cI l p].1,max l[cI l p].2 p.2):=by rw[xi,dif_pos h,if_pos q]
theorem QA{l:PL}{p:K2×Int}(h:∀h:cI l p<l.length,l[cI l p].1≠p.1):fH l p=l.take (cI l p)++p::l.drop (cI l p):=by
 rw[xi]
 split
 ·rename_i q;rw[if_neg (h q)]
 ·rename_i q
  have:=CX l p
  rw[agS zd,List.drop_eq_nil_of_le zd]
theorem s9{l:PL}{p:K2×Int}{k:Nat}(q:∀j(h:j<l.length),j<k->pg l[j].1 p.1)(A:k<=l.length)(u:∀h:k<l.length, ¬pg l[k].1 p.1):k=cI l p:=by
 rcases Nat.lt_trichotomy k (cI l p)with h|h|h
 ·have H:=CX l p;exact absurd (Kg l p k zd h) (u zd)
 ·exact h
 ·exact absurd (q _ zd h) (CU l p zd)
theorem QC(l:PL)(p:K2×Int)(hl:l.length<=1000000)(U:cI l p<l.length)(Y:l[cI l p].1=p.1) :
  bR prog 38 [.vec 0 l.length,.agg (aJ p)] [some ⟨61,3,true,l.map aJ⟩] (.vec 0 (fH l p).length) [some ⟨61,3,true,(fH l p).map aJ⟩]:=by
 have eN:(l.map aJ).length=l.length:=zk
 rw[MU U Y];simp only[aJ];refine gF func38 ntmps38 results38 ?_
 (refine bj ?_;intro K hK)
 refine bg (ι:=Nat) 6 (λk=>[(5,.v (.int .i64 k))]) (λk=>l.length-k) (λk=>k<=l.length∧∀j(h:j<l.length),j<k->pg l[j].1 p.1) 0 ⟨aex _,λj _ h=>absurd h (ahl _)⟩ ?_ ?_
 ·refine ab (bJ ?_) ar ar
  all_goals rfl
 ·rintro k ⟨O,u⟩ K hK;have eW:=ag (k:=k) zd
  have d1:k<l.length:=by
   rcases aes k l.length with h|h
   ·exact h
   ·exact absurd (u _ U zd) (CU l p U)
  have W:decide ((k:Int)<(l.length:Int))=true:=b0;have eG:=qu d1
  have next:pg l[k].1 p.1->∀j(h:j<l.length),j<k+1->pg l[j].1 p.1:=λh j hj V=>by
   rcases ahm.1 V with q|rfl
   ·exact u j hj q
   ·exact h
  by_cases c1:l[k].1.1.data.toList<p.1.1.data.toList
  ·have f1:Op.bytesLess l[k].1.1.toList p.1.1.toList=true:=cP.2 c1
   (revert K;revert K;refine cw (nq W eG f1) ?_)
   refine aM eW ?_;exact aw.mk (k+1) ⟨d1,next (.inl c1)⟩ zd (by exact ab ar ar ar)
  ·have f1:Op.bytesLess l[k].1.1.toList p.1.1.toList=false:=by
    cases h:Op.bytesLess l[k].1.1.toList p.1.1.toList
    ·rfl
    ·exact absurd (cP.1 h) c1
   have here: ¬pg l[k].1 p.1->l[k].1=p.1∧k=cI l p:=λh=>by
    have:=s9 u O λ_=>h
    subst this;exact⟨Y,rfl⟩
   by_cases c2:l[k].1.1=p.1.1
   ·have f2:(l[k].1.1.toList==p.1.1.toList)=true:=by rw[c2];simp
    by_cases H:l[k].1.2.data.toList<p.1.2.data.toList
    ·have f3:Op.bytesLess l[k].1.2.toList p.1.2.toList=true:=cP.2 H
     (revert K;revert K;refine cw (qq W eG f1 f2 f3) ?_)
     refine aM eW ?_;exact aw.mk (k+1) ⟨d1,next (.inr ⟨c2,H⟩)⟩ zd (by exact ab ar ar ar)
    ·have f3:Op.bytesLess l[k].1.2.toList p.1.2.toList=false:=by
      cases h:Op.bytesLess l[k].1.2.toList p.1.2.toList
      ·rfl
      ·exact absurd (cP.1 h) H
     obtain⟨h2,h3⟩:=here λh=>by
      rcases h with h|h
      ·exact c1 h
      ·exact H h.2
     have f4:(l[k].1.2.toList==p.1.2.toList)=true:=by rw[h2];simp
     (revert K;revert K;refine AG 5 (oT W eG f1 f2 f3 f4) ?_;intro K hK K hK)
     refine bE [12] [] za zo ?_
     (revert K;revert K;refine ak eG ?_)
     subst h3
     have eM:(if p.2 > l[cI l p].2 then p.2 else l[cI l p].2)=max l[cI l p].2 p.2:=by split<;>omega
     rw[eM,aha]
     have eR:(l.set (cI l p) (l[cI l p].1,max l[cI l p].2 p.2)).map aJ=(l.map aJ).set (cI l p) [.v (.string l[cI l p].1.1),.v (.string l[cI l p].1.2),.v (.int .i64 (max l[cI l p].2 p.2))]:=by rw[agz];rfl
     have A:=bt 1 (l.set (cI l p) (l[cI l p].1,max l[cI l p].2 p.2));rw[eR]at A⊢;refine⟨ek,AL ?_,ek⟩
     all_goals exact A
   ·exfalso
    obtain⟨h1,_⟩:=here λh=>by
     rcases h with h|h
     ·exact c1 h
     ·exact c2 h.1
    exact c2 (congrArg Prod.fst h1)
theorem Uw(l:PL)(p:K2×Int)(hl:l.length<=1000000)(he:∀h:cI l p<l.length,l[cI l p].1≠p.1) :
  bR prog 38 [.vec 0 l.length,.agg (aJ p)] [some ⟨61,3,true,l.map aJ⟩] (.vec 3 (fH l p).length) [none,none,none,some ⟨61,3,true,(fH l p).map aJ⟩]:=by
 have eN:(l.map aJ).length=l.length:=zk
 have hkl':=CX l p;have V:=QA he;have O:=bt 4 (fH l p)
 have fin:∀k,k=cI l p->(l.take k).map aJ++([.v (.string p.1.1),.v (.string p.1.2),.v (.int .i64 p.2)]::(l.drop k).map aJ)=(fH l p).map aJ∧k+(l.length-k+1)=(fH l p).length:=λk hk=>by
  rw[V, <- hk,agY,aga];exact⟨rfl,ahy⟩
 generalize(fH l p).map aJ=R at *;generalize(fH l p).length=N at *;clear V;simp only[aJ];refine gF func38 ntmps38 results38 ?_
 (refine bj ?_;intro K hK)
 refine bg (ι:=Nat) 6 (λk=>[(5,.v (.int .i64 k))]) (λk=>l.length-k) (λk=>k<=l.length∧∀j(h:j<l.length),j<k->pg l[j].1 p.1) 0 ⟨aex _,λj _ h=>absurd h (ahl _)⟩ ?_ ?_
 ·refine ab (bJ ?_) ar ar
  all_goals rfl
 ·rintro k ⟨H,u⟩ K hK;have eW:=ag (k:=k) zd
  have r1:((l.map aJ).drop k).take (l.length-k)=(l.drop k).map aJ:=by
   rw[<-List.map_drop];exact agS zk
  have r2:(l.drop k).length=l.length-k:=zk
  have r3:(l.map aJ).take k=(l.take k).map aJ:=by rw[List.map_take]
  have Y:(l.take k).length=k:=ahy
  by_cases d1:k<l.length
  ·have U:decide ((k:Int)<(l.length:Int))=true:=b0;have eG:=qu d1
   have next:pg l[k].1 p.1->∀j(h:j<l.length),j<k+1->pg l[j].1 p.1:=λh j hj hjk=>by
    rcases ahm.1 hjk with q|rfl
    ·exact u j hj q
    ·exact h
   by_cases c1:l[k].1.1.data.toList<p.1.1.data.toList
   ·have f1:Op.bytesLess l[k].1.1.toList p.1.1.toList=true:=cP.2 c1
    (revert K;revert K;refine cw (nq U eG f1) ?_)
    refine aM eW ?_;exact aw.mk (k+1) ⟨d1,next (.inl c1)⟩ zd (by exact ab ar ar ar)
   ·have f1:Op.bytesLess l[k].1.1.toList p.1.1.toList=false:=by
     cases h:Op.bytesLess l[k].1.1.toList p.1.1.toList
     ·rfl
     ·exact absurd (cP.1 h) c1
    by_cases c2:l[k].1.1=p.1.1
    ·have f2:(l[k].1.1.toList==p.1.1.toList)=true:=by rw[c2];simp
     by_cases W:l[k].1.2.data.toList<p.1.2.data.toList
     ·have f3:Op.bytesLess l[k].1.2.toList p.1.2.toList=true:=cP.2 W
      (revert K;revert K;refine cw (qq U eG f1 f2 f3) ?_)
      refine aM eW ?_;exact aw.mk (k+1) ⟨d1,next (.inr ⟨c2,W⟩)⟩ zd (by exact ab ar ar ar)
     ·have f3:Op.bytesLess l[k].1.2.toList p.1.2.toList=false:=by
       cases h:Op.bytesLess l[k].1.2.toList p.1.2.toList
       ·rfl
       ·exact absurd (cP.1 h) W
      have A:k=cI l p:=s9 u H λ_ h=>by
       rcases h with h|h
       ·exact c1 h
       ·exact W h.2
      have f4:(l[k].1.2.toList==p.1.2.toList)=false:=by
       subst A
       cases hh:(l[cI l p].1.2.toList==p.1.2.toList)
       ·rfl
       ·exact absurd (Prod.ext c2 (toList_inj.1 hh)) (he d1)
      (revert K;revert K;refine AG 7 (oT U eG f1 f2 f3 f4) ?_;intro K hK)
      refine bl (gy 0 0 rfl rfl rfl (agG _)) zo ?_;simp only[afS,afR];refine bE [1,5] [(4,0)] za zo ?_
      (revert K;refine E6 (pG r1 r2 r3 Y) ?_)
      rw[(fin k A).1,(fin k A).2];refine⟨ek,AL ?_,ek⟩
      all_goals exact O
    ·have f2:(l[k].1.1.toList==p.1.1.toList)=false:=by
      cases hh:(l[k].1.1.toList==p.1.1.toList)
      ·rfl
      ·exact absurd (toList_inj.1 hh) c2
     have A:k=cI l p:=s9 u H λ_ h=>by
      rcases h with h|h
      ·exact c1 h
      ·exact c2 h.1
     (revert K;revert K;refine AG 7 (pG U eG f1 f2) ?_;intro K hK)
     refine bl (gy 0 0 rfl rfl rfl (agG _)) zo ?_;simp only[afS,afR];refine bE [1,5] [(4,0)] za zo ?_
     (revert K;refine E6 (pG r1 r2 r3 Y) ?_)
     rw[(fin k A).1,(fin k A).2];refine⟨ek,AL ?_,ek⟩
     all_goals exact O
  ·have U:decide ((k:Int)<(l.length:Int))=false:=bi;have A:k=cI l p:=s9 u H λh=>absurd h d1
   (revert K;revert K;refine AG 7 U ?_;intro K hK)
   refine bl (gy 0 0 rfl rfl rfl (agG _)) zo ?_;simp only[afS,afR];refine bE [1,5] [(4,0)] za zo ?_
   (revert K;refine E6 (pG r1 r2 r3 Y) ?_)
   rw[(fin k A).1,(fin k A).2];refine⟨ek,AL ?_,ek⟩
   all_goals exact O
theorem KB(l:PL)(p:K2×Int)(hl:l.length<=1000000) :
  bR prog 38 [.vec 0 l.length,.agg (aJ p)] [some ⟨61,3,true,l.map aJ⟩] (.vec 3 (fH l p).length) [none,none,none,some ⟨61,3,true,(fH l p).map aJ⟩]:=by
 by_cases h:∃h:cI l p<l.length,l[cI l p].1=p.1
 ·exact((QC l p hl h.1 h.2).pad 2).mv (ob:=⟨61,3,true,(fH l p).map aJ⟩) rfl rfl zk
 ·exact Uw l p hl λu q=>h ⟨u,q⟩
theorem BI(l:Id):(iU l).length=2*l.length:=by
 induction l with
 |nil=>rfl
 |cons a l ih=>simp only[iU,List.flatMap_cons,List.length_append,afa,aeq]at ih⊢; omega
theorem zC:∀{E:Id}{i:Nat}(h:i<E.length),(iU E).take (2*i+1)=(iU E).take (2*i)++[((E[i].bP,E[i].bP),E[i].time)]∧(iU E).take (2*(i+1))=(iU E).take (2*i+1)++[((E[i].to,E[i].to),E[i].time)]
 |e::E,0,_=>⟨rfl,rfl⟩
 |e::E,i+1,h=>by
  have A:i<E.length:=by simpa using h
  obtain⟨u,q⟩:=zC A;have ex:iU (e::E)=((e.bP,e.bP),e.time)::((e.to,e.to),e.time)::iU E:=rfl;simp only[ex,show 2*(i+1)+1=(2*i+1)+1+1 by omega,show 2*(i+1+1)=2*(i+1)+1+1 by omega,show 2*(i+1)=2*i+1+1 by omega,List.take_succ_cons,List.getElem_cons_succ,afK]at u q⊢;exact⟨by rw[u],by rw[q]⟩
theorem KJ(E:Id)(hE:E.length<=100000):aj prog 17 [.aB 5 (E.map aR) E.length] (.aB 3 ((aI E).map aJ) (aI E).length):=by
 have hV:∀k,(mg ((iU E).take k) []).length<=1000000:=λk=>by
  have h1:=qB ((iU E).take k) [];have h2:=BI E;simp only[List.length_take,aeq]at h1;omega
 obtain⟨S,H⟩:∃S:Nat->PL,S=λk=>mg ((iU E).take k) []:=⟨_,rfl⟩
 have A:∀k,(S k).length<=1000000:=λk=>by rw[H];exact hV k
 have u:S (2*E.length)=aI E:=by
  rw[H, <- RH]
  have:(iU E).length=2*E.length:=BI E
  rw[<-this];simp only[List.take_length]
 have U:∀i(h:i<E.length),S (2*i+1)=fH (S (2*i)) ((E[i].bP,E[i].bP),E[i].time)∧S (2*(i+1))=fH (S (2*i+1)) ((E[i].to,E[i].to),E[i].time):=λi h=>by
  obtain⟨h1,h2⟩:=zC h;rw[H];exact⟨by simp only[h1,mT];rfl,by simp only[h2,mT];rfl⟩
 have h0:S 0=[]:=by rw[H];rfl
 clear H hV;rw[<-u]
 have eF:(AV.aB 3 ((S (2*E.length)).map aJ) (S (2*E.length)).length).wf 0=true:=by simp only[AV.wf,bt]
 have hA:aU 0 [.aB 5 (E.map aR) E.length]=true:=by simp only[aU,AV.wf,df,Bool.and_true]
 (refine aj.iA func17 rfl zo zo rfl hA eF ?_;simp only[ntmps17,results17,afa,aeq,Nat.reduceAdd,Nat.reduceSub,afU,afV,afK,List.nil_append])
 (refine ae ?_;intro K hK)
 refine gu (ι:=Nat) 3 61 3 rfl zs 5 (λi=>[(3,.vec 0 (S (2*i)).length),(4,.v (.int .i64 (i:Nat)))]) (λi=>[some ⟨61,3,true,(S (2*i)).map aJ⟩]) (λi=>E.length-i) (λi=>i<=E.length) 0 (aex _) ?_ ?_
 ·rw[h0];refine ab (bJ ?_) ar ar
  all_goals rfl
 ·intro i hi K hK;have O:=λn k=>bt n (S k);have hr:=λf k=>bn f _ (bt 0 (S k))
  rcases aes i E.length with h|h
  ·obtain⟨W,V⟩:=U i h;have d1:decide ((i:Int)<(E.length:Int))=true:=b0;have ws:=ag (k:=i) zd;have eG:=qt h;have P1:=KB (S (2*i)) ((E[i].bP,E[i].bP),E[i].time) (A _);have P2:=KB (S (2*i+1)) ((E[i].to,E[i].to),E[i].time) (A _);rw[<-W]at P1;rw[<-V]at P2;simp only[aJ]at P1 P2
   (revert K;revert K;refine Pj 5 d1 eG ?_;iterate 4 intro K hK)
   refine bE [17] [] za zo ?_
   ((iterate 4 revert K);refine ak eG ?_;iterate 5 intro K hK)
   refine dQ.out P1 ?_
   ((iterate 5 revert K);refine jf 6 eG ?_;intro K hK K hK K hK)
   refine qj [3] (bP 48 [(0,.aB 5 (E.map aR) E.length),(2,.v (.slice none 0 0)),(3,.vec 0 (S (2*i+1)).length),(4,.v (.int .i64 (i:Nat)))]) [some ⟨61,3,true,(S (2*i+1)).map aJ⟩] zk ?_ ?_ ?_ zo ?_
   ·simp only[aga,List.map_nil,afD,afE,Option.map_some,aa.ba,hr]
   ·intro k ob q
    match k,q with
    |0,q=>cases q;exact O _ _
    |k+1,q=>simp at q
   ·simp only[bP,afO,afP,afU,afV,go_sem];simp only[rl,AV.ba,sig,go_sem];simp
   simp only[bP,afO,afP,afU,afV,go_sem]
   ((iterate 3 revert K);refine jf 6 eG ?_;intro K hK K hK K hK)
   refine bE [17] [] za zo ?_
   ((iterate 3 revert K);refine ak eG ?_;iterate 4 intro K hK)
   refine dQ.out P2 ?_
   ((iterate 4 revert K);refine dG 4 ?_;intro K hK K hK)
   refine qj [3] (bP 48 [(0,.aB 5 (E.map aR) E.length),(2,.v (.slice none 0 0)),(3,.vec 0 (S (2*(i+1))).length),(4,.v (.int .i64 (i:Nat)))]) [some ⟨61,3,true,(S (2*(i+1))).map aJ⟩] zk ?_ ?_ ?_ zo ?_
   ·simp only[aga,List.map_nil,afD,afE,Option.map_some,aa.ba,hr]
   ·intro k ob q
    match k,q with
    |0,q=>cases q;exact O _ _
    |k+1,q=>simp at q
   ·simp only[bP,afO,afP,afU,afV,go_sem];simp only[rl,AV.ba,sig,go_sem];simp
   simp only[bP,afO,afP,afU,afV,go_sem]
   (revert K;revert K;refine ak ws ?_)
   exact aw.mk (i+1) h zd (by exact ab ar ar ar;all_goals exact O _ _)
  ·have Y:i=E.length:=zd
   have d1:decide ((i:Int)<(E.length:Int))=false:=bi;subst Y
   (revert K;revert K;refine ak d1 ?_)
   exact bB.sg (ob:=⟨61,3,true,(S (2*E.length)).map aJ⟩) rfl rfl zk (O _ _)
def pC(p:Nd×Int):C5:=[.v (.string p.1.1),.v (.int .i64 (p.1.2:Nat)),.v (.int .i64 p.2)]
theorem dh(n:Nat)(l:NL):bD n (l.map pC)=true:=bw _ (λ_=>rfl) l
attribute [go_sem] dh
theorem CA{l:NL}{i:Nat}(h:i<l.length):(l.map pC).getD i []=[.v (.string l[i].1.1),.v (.int .i64 (l[i].1.2:Nat)),.v (.int .i64 l[i].2)]:=by
 rw[getD_map pC l i [] h];rfl
theorem YJ:∀{l:NL}{k:Nd}{t:Int}{n:Nat}(h:n<l.length),(∀q(H:q<l.length),q<n->l[q].1≠k)->l[n].1=k->bU l k=some l[n].2∧gP l k t=l.set n (k,t)
 |p::l,k,t,0,_,_,u=>by
  have u:p.1=k:=u;rw[bU,if_pos u,gP,if_pos u];exact⟨rfl,rfl⟩
 |p::l,k,t,n+1,h,A,u=>by
  have O:p.1≠k:=A 0 zk zd
  have:=YJ (l:=l) (k:=k) (t:=t) (n:=n) (by simpa using h) (λq H U=>A (q+1) (by simpa using H) zd) u
  rw[bU,if_neg O,gP,if_neg O];exact⟨this.1,by rw[this.2];rfl⟩
theorem YK:∀{l:NL}{k:Nd}{t:Int},(∀q(u:q<l.length),l[q].1≠k)->bU l k=none∧gP l k t=l++[(k,t)]
 | [],k,t,_=>⟨rfl,rfl⟩
 |p::l,k,t,h=>by
  have A:p.1≠k:=h 0 zk
  have:=YK (l:=l) (k:=k) (t:=t) λq u=>h (q+1) (by simpa using u)
  rw[bU,if_neg A,gP,if_neg A];exact⟨this.1,by rw[this.2];rfl⟩
theorem gm(n:Nat)(e:bH):aU n (aR e)=true:=by simp only[aR,aU,AV.wf,cM,Bool.and_self]
def abX(A:oZ)(E:Id)(root:ByteArray)(r:AV)(o:AC):Prop:=∃l:NL,rh (ic A) E root l∧l.length<=E.length*A.rows.length∧r=.vec 0 l.length∧o=[some ⟨92,3,true,l.map pC⟩]
theorem M3{A:oZ}{nv:C5}(C:∀(s:Int)l,aj prog 70 [.vp nv,.v (.int .i64 s),.v (.string l)] (stepT (jt A s l)))(wn:∀m,aU m nv=true)(E:Id)(hE:E.length<=100)(hmax:A.rows.length<=1000)(hst:∀s l t,ic A s l=some t->t<A.rows.length)(root:ByteArray) :
  ft prog 39 [.vp nv,.aB 5 (E.map aR) E.length,.v (.string root)] [] (abX A E root):=by
 have hB:∀{l:NL},NI (ic A) E root A.rows.length l->l.length<=E.length*A.rows.length:=λh=>h.len;have hBB:E.length*A.rows.length<=100*1000:=Nat.mul_le_mul hE hmax;simp only[stepT]at C;refine ft.enter func39 rfl zo zo rfl ?_;simp only[ntmps39,results39,afa,aeq,Nat.reduceAdd,Nat.reduceSub,afU,afV,afK,List.nil_append]
 (refine bj ?_;intro K hK)
 refine gu (ι:=NL×Bool) 7 92 3 rfl zs 17 (λx=>[(7,.vec 0 x.1.length),(8,.v (.bool x.2)),(9,.undef),(10,.undef),(11,.undef),(12,.undef),(13,.undef),(14,.undef),(15,.undef),(16,.undef)]) (λx=>[some ⟨92,3,true,x.1.map pC⟩]) (λx=>E.length*A.rows.length*(1+E.length)-wa E x.1+x.2.toNat) (λx=>NI (ic A) E root A.rows.length x.1∧(x.2=false->rh (ic A) E root x.1)) ([],true) ⟨NI.nil,λh=>by cases h⟩ ?_ ?_
 ·refine ab (bJ ?_) ar ar
  all_goals first|exact wn _|exact⟨wn _,rfl⟩|exact⟨rfl,gm _ _⟩
 ·rintro⟨U,m0⟩ ⟨hN0,hD0⟩ K hK;simp only at hN0 hD0⊢
  cases m0
  ·have hD:=hD0 rfl
   (revert K;revert K;refine bj ?_)
   exact⟨U,hD,hB hN0,rfl,rfl⟩
  ·(revert K;revert K;refine dG 6 ?_;intro K hK K hK)
   refine aO (ι:=NL×Bool×Nat) 17 (λx=>[(7,.vec 0 x.1.length),(8,.v (.bool x.2.1)),(9,.v (.int .i64 (x.2.2:Nat))),(10,.undef),(11,.undef),(12,.undef),(13,.undef),(14,.undef),(15,.undef),(16,.undef)]) (λx=>[some ⟨92,3,true,x.1.map pC⟩]) (λx=>E.length-x.2.2) (λx=>NI (ic A) E root A.rows.length x.1∧x.2.2<=E.length∧RI (ic A) E root x.2.2 0 x.1 x.2.1∧wa E U<=wa E x.1∧(x.2.1=true->wa E U<wa E x.1)) (U,false,0) ⟨hN0,aex _,RI.zero U,Nat.le_refl _,λh=>by cases h⟩ ?_ ?_
   ·refine ab (bJ ?_) ar ar
    all_goals first|exact dh _ _|exact wn _|exact⟨wn _,rfl⟩|exact⟨wn _,zk⟩
   ·rintro⟨l,m,i⟩ ⟨hN,hi,hR,hp1,hp2⟩ K hK;simp only at hN hi hR hp1 hp2⊢
    rcases aes i E.length with h|h
    ·have d1:decide ((i:Int)<(E.length:Int))=true:=b0;have ws:=ag (k:=i) zd;have eG:=qt h
     ((iterate 3 revert K);refine Pj 10 d1 eG ?_;iterate 4 intro K hK)
     refine aO (ι:=NL×Bool×Nat) 17 (λx=>[(7,.vec 0 x.1.length),(8,.v (.bool x.2.1)),(11,.v (.int .i64 ((x.2.2:Int)-1))),(12,.undef),(13,.undef),(14,.undef),(15,.undef),(16,.undef)]) (λx=>[some ⟨92,3,true,x.1.map pC⟩,some ⟨35,5,false,[aR E[i]]⟩]) (λx=>E.length*A.rows.length+2-x.2.2) (λx=>NI (ic A) E root A.rows.length x.1∧x.2.2<=x.1.length+1∧RI (ic A) E root i x.2.2 x.1 x.2.1∧wa E U<=wa E x.1∧(x.2.1=true->wa E U<wa E x.1)) (l,m,0) ⟨hN,aex _,hR,hp1,hp2⟩ ?_ ?_
     ·simp only[aR];refine ab (bJ ?_) ar ar
      all_goals first|exact dh _ _|exact wn _|exact⟨wn _,rfl⟩|exact⟨wn _,zk⟩
     ·rintro⟨u,m1,j⟩ ⟨O,hj,hR1,V,hq2⟩ K hK;simp only at O hj hR1 V hq2⊢;simp only[aR];have hlen:=hB O
      rcases aes u.length j with hx|hx
      ·have d2:decide (((j:Int)-1)<(u.length:Int))=false:=bi
       ((iterate 5 revert K);refine aM (rL d2 ws) ?_)
       refine aw.mk (u,m1,i+1) ⟨O,h,hR1.jb h hx,V,hq2⟩ (show E.length-(i+1)<E.length-i by omega) ?_;refine ab (bJ ?_) ar ar
       all_goals first|exact dh _ _|exact wn _|exact⟨wn _,rfl⟩|exact⟨wn _,zk⟩
      ·have d2:decide (((j:Int)-1)<(u.length:Int))=true:=b0
       have eWj:IntKind.i64.wrap (((j:Int)-1)+1)=(((j+1:Nat):Int)-1):=by rw[bT zd zd];omega
       obtain⟨u1,u2,_,u4,u5⟩:=RE (e:=E[i]) (m:=m1) hst (List.getElem_mem h) hx O;have uR:=hR1.step hst h hx O
       have nxt:∀(L:NL)(mm:Bool),NB (ic A) root E[i] (u,m1) j=(L,mm)->NI (ic A) E root A.rows.length L∧j+1<=L.length+1∧RI (ic A) E root i (j+1) L mm∧wa E U<=wa E L∧(mm=true->wa E U<wa E L):=λL mm e=>by
        rw[e]at u1 u2 u4 u5 uR;refine⟨u1,by have:=u2;simp only at this;omega,uR,Nat.le_trans V u4,λh=>?_⟩
        by_cases hm:m1=true
        ·exact Nat.lt_of_lt_of_le (hq2 hm) u4
        ·exact Nat.lt_of_le_of_lt V (u5 (by simpa using hm) h)
       obtain⟨a,ha⟩:∃a,a=atR root E[i] u j:=⟨_,rfl⟩
       have eU:NB (ic A) root E[i] (u,m1) j=if a.1.1=E[i].bP then match ic A a.1.2 E[i].label with|some t=>(gb u (E[i].to,t) (min a.2 E[i].time),m1||dW u (E[i].to,t) (min a.2 E[i].time))|none=>(u,m1)else(u,m1):=by rw[ha];rfl
       repeat((fail_if_success (with_reducible refine Rl (i:=13) ?_));first|(with_reducible first|refine bG.up ?_|refineλ(K:AK)hK=>?_|(refine hK _ ?_;clear hK K))|simp only[go_sem,d2]|with_reducible refine wA ?_|clear hK K)
       refine vM ⟨bP 118 [(0,.vp nv),(1,.aB 5 (E.map aR) E.length),(2,.v (.string root)),(6,.v (.slice none 0 0)),(7,.vec 0 u.length),(8,.v (.bool m1)),(9,.v (.int .i64 (i:Nat))),(10,.ptr 1 0 5 0 0),(11,.v (.int .i64 ((j:Int)-1))),(12,.ptr 2 0 3 0 0)],[some ⟨92,3,true,u.map pC⟩,some ⟨35,5,false,[[.v (.string E[i].bP),.v (.string E[i].to),.v (.string E[i].label),.v (.int .i64 E[i].time),.aB 4 (E[i].props.map cX) E[i].props.length]]⟩,some ⟨92,3,false,[[.v (.string a.1.1),.v (.int .i64 (a.1.2:Nat)),.v (.int .i64 a.2)]]⟩],.no⟩ zo zo ?_ ?_
       ·cases j with
        |zero=>
         have d3:decide ((0:Int)<=((0:Nat):Int)-1)=false:=zs
         rw[ha]
         ((iterate 6 revert K);refine aM d3 ?_)
         refine ab (bJ ?_) (bJ ?_) ar
         all_goals first|rfl|exact wn _|exact dh _ _|exact⟨wn _,rfl⟩|exact⟨rfl,gm _ _⟩
        |succ j=>
         have d3:decide ((0:Int)<=((j+1:Nat):Int)-1)=true:=b0
         have hj2:j<u.length:=zd
         have eT:(((j+1:Nat):Int)-1).toNat=j:=zd
         have eA:atR root E[i] u (j+1)=u[j]:=by
          show u.getD j _=_;rw[List.getD_eq_getElem?_getD,List.getElem?_eq_getElem hj2,Option.getD_some]
         have eN:=CA hj2;have d4:decide ((((j+1:Nat):Int)-1)<(u.length:Int))=true:=d2;rw[ha,eA]
         ((iterate 6 revert K);refine aM (nq d3 eT eN) ?_)
         refine ab (bJ ?_) ar ar
         all_goals first|exact wn _|exact dh _ _|exact⟨wn _,rfl⟩|exact⟨rfl,gm _ _⟩
       ·simp only[bP,afO,afP,afU,afV,go_sem]
        ((iterate 6 revert K);refine bj ?_;iterate 8 intro K hK)
        refine ai.one (C a.1.2 E[i].label) ?_;have eS:jt A ((a.1.2:Nat):Int) E[i].label=ic A a.1.2 E[i].label:=rfl;rw[eS]
        by_cases hf:a.1.1=E[i].bP
        ·have f1:(a.1.1.toList !=E[i].bP.toList)=false:=by rw[hf];simp
         have f0:(a.1.1.toList==E[i].bP.toList)=true:=by rw[hf];simp
         rw[if_pos hf]at eU
         cases hs:ic A a.1.2 E[i].label with
         |none=>
          rw[hs]at eU;simp only at eU
          repeat(first|(with_reducible first|refine bG.up ?_|refineλ(K:AK)hK=>?_|refine wD ?_|(refine hK _ ?_;clear hK K))|simp only[go_sem,f0,f1,Option.isSome,Option.getD,Bool.not_false,Go.undef]|with_reducible refine wA ?_|clear hK K)
          refine aM eWj ?_;refine aw.mk (u,m1,j+1) (nxt _ _ eU) (show E.length*A.rows.length+2-(j+1)<E.length*A.rows.length+2-j by omega) ?_;refine ab (bJ ?_) (bJ ?_) ar
          all_goals first|exact wn _|exact dh _ _|exact⟨wn _,rfl⟩|exact⟨rfl,gm _ _⟩
         |some t=>
          rw[hs]at eU;simp only at eU
          repeat(first|(with_reducible first|refine bG.up ?_|refineλ(K:AK)hK=>?_|refine wD ?_|(refine hK _ ?_;clear hK K))|simp only[go_sem,f0,f1,Option.isSome,Option.getD,Bool.not_true,Go.undef]|with_reducible refine wA ?_|clear hK K)
          have eM:(if E[i].time<a.2 then E[i].time else a.2)=min a.2 E[i].time:=by split<;>omega
          simp only[eM]
          refine bg (ι:=Nat) 71 (λn=>[(16,.v (.int .i64 (n:Nat)))]) (λn=>u.length-n) (λn=>n<=u.length∧∀q(hq:q<u.length),q<n->u[q].1≠(E[i].to,t)) 0 ⟨aex _,λq _ h=>absurd h (ahl _)⟩ ?_ ?_
          ·refine ab (bJ ?_) ar ar
           all_goals first|exact wn _|exact dh _ _|exact⟨wn _,rfl⟩|exact⟨wn _,rfl,wn _⟩|exact⟨rfl,gm _ _⟩
          ·rintro n ⟨hn,W⟩ K hK;have wsn:=ag (k:=n) zd
           by_cases Y:n<u.length
           ·have e1:decide ((n:Int)<(u.length:Int))=true:=b0;have eN:=CA Y
            by_cases H:u[n].1.1=E[i].to
            ·have g1:(u[n].1.1.toList !=E[i].to.toList)=false:=by rw[H];simp
             have g0:(u[n].1.1.toList==E[i].to.toList)=true:=by rw[H];simp
             by_cases hk2:u[n].1.2=t
             ·have g2:(((u[n].1.2:Nat):Int) !=(t:Int))=false:=by rw[hk2];simp
              have g3:(((u[n].1.2:Nat):Int)==(t:Int))=true:=by rw[hk2];simp
              obtain⟨q1,q2⟩:=YJ (t:=min a.2 E[i].time) Y W (Prod.ext H hk2)
              have q3:((n:Int)==(u.length:Int))=false:=ahy
              by_cases hτ:u[n].2<min a.2 E[i].time
              ·have d5:decide (u[n].2<min a.2 E[i].time)=true:=decide_eq_true hτ
               have q4:dW u (E[i].to,t) (min a.2 E[i].time)=true:=by rw[dW,q1];exact d5
               rw[gb,q4,if_pos rfl,q2,Bool.or_true]at eU
               ((iterate 8 revert K);refine cw (Y1 e1 eN g1 g0 g2 g3 q3 d5) ?_)
               refine aM eWj ?_;refine aw.mk (_,true,j+1) (nxt _ _ eU) (show E.length*A.rows.length+2-(j+1)<E.length*A.rows.length+2-j by omega) ?_;refine ab (bJ ?_) (bJ ?_) ar
               all_goals first|exact wn _|exact dh _ _|exact⟨wn _,rfl⟩|exact⟨wn _,rfl,wn _⟩|exact⟨rfl,gm _ _⟩|exact⟨wn _,aha.symm⟩|exact⟨by rw[agz];rfl,rfl,gm _ _⟩|exact⟨by rw[agY];rfl,rfl,gm _ _⟩
              ·have d5:decide (u[n].2<min a.2 E[i].time)=false:=decide_eq_false hτ
               have q4:dW u (E[i].to,t) (min a.2 E[i].time)=false:=by rw[dW,q1];exact d5
               rw[gb,q4,if_neg Bool.false_ne_true,Bool.or_false]at eU
               ((iterate 8 revert K);refine cw (Y1 e1 eN g1 g0 g2 g3 q3 d5) ?_)
               refine aM eWj ?_;refine aw.mk (_,m1,j+1) (nxt _ _ eU) (show E.length*A.rows.length+2-(j+1)<E.length*A.rows.length+2-j by omega) ?_;refine ab (bJ ?_) (bJ ?_) ar
               all_goals first|exact wn _|exact dh _ _|exact⟨wn _,rfl⟩|exact⟨wn _,rfl,wn _⟩|exact⟨rfl,gm _ _⟩|exact⟨wn _,aha.symm⟩|exact⟨by rw[agz];rfl,rfl,gm _ _⟩|exact⟨by rw[agY];rfl,rfl,gm _ _⟩
             ·have g2:(((u[n].1.2:Nat):Int) !=(t:Int))=true:=ahy
              have g3:(((u[n].1.2:Nat):Int)==(t:Int))=false:=ahy
              ((iterate 8 revert K);refine cw (oT e1 eN g1 g0 g2 g3) ?_)
              refine aM wsn ?_
              refine aw.mk (n+1) ⟨Y,λq hq hqn=>?_⟩ (show u.length-(n+1)<u.length-n by omega) ?_
              ·rcases ahm.1 hqn with h|rfl
               ·exact W q hq h
               ·exactλhe=>hk2 (congrArg Prod.snd he)
              ·refine ab (bJ ?_) ar ar
               all_goals first|exact wn _|exact dh _ _|exact⟨wn _,rfl⟩|exact⟨wn _,rfl,wn _⟩|exact⟨rfl,gm _ _⟩
            ·have g1:(u[n].1.1.toList !=E[i].to.toList)=true:=by
              rw[bne_iff_ne];exactλh=>H (toList_inj.1 (by rw[h];simp))
             have g0:(u[n].1.1.toList==E[i].to.toList)=false:=by
              have:=g1
              simpa using this
             ((iterate 8 revert K);refine cw (pG e1 eN g1 g0) ?_)
             refine aM wsn ?_
             refine aw.mk (n+1) ⟨Y,λq hq hqn=>?_⟩ (show u.length-(n+1)<u.length-n by omega) ?_
             ·rcases ahm.1 hqn with h|rfl
              ·exact W q hq h
              ·exactλhe=>H (congrArg Prod.fst he)
             ·refine ab (bJ ?_) ar ar
              all_goals first|exact wn _|exact dh _ _|exact⟨wn _,rfl⟩|exact⟨wn _,rfl,wn _⟩|exact⟨rfl,gm _ _⟩
           ·have hin:n=u.length:=zd
            have e1:decide ((n:Int)<(u.length:Int))=false:=bi
            have q3:((n:Int)==(u.length:Int))=true:=ahy
            obtain⟨q1,q2⟩:=YK (t:=min a.2 E[i].time) (λq hq=>W q hq zd)
            have q4:dW u (E[i].to,t) (min a.2 E[i].time)=true:=by rw[dW,q1]
            rw[gb,q4,if_pos rfl,q2,Bool.or_true]at eU
            ((iterate 8 revert K);refine cw (rL e1 q3) ?_)
            refine aM eWj ?_;refine aw.mk (_,true,j+1) (nxt _ _ eU) (show E.length*A.rows.length+2-(j+1)<E.length*A.rows.length+2-j by omega) ?_;refine ab (bJ ?_) (bJ ?_) ar
            all_goals first|exact wn _|exact dh _ _|exact⟨wn _,rfl⟩|exact⟨wn _,rfl,wn _⟩|exact⟨rfl,gm _ _⟩|exact⟨wn _,aha.symm⟩|exact⟨by rw[agz];rfl,rfl,gm _ _⟩|exact⟨by rw[agY];rfl,rfl,gm _ _⟩
        ·have f1:(a.1.1.toList !=E[i].bP.toList)=true:=by
          rw[bne_iff_ne];exactλh=>hf (toList_inj.1 (by rw[h];simp))
         have f0:(a.1.1.toList==E[i].bP.toList)=false:=by
          have:=f1
          simpa using this
         rw[if_neg hf]at eU
         ((iterate 8 revert K);refine cw (rL f0 f1) ?_)
         refine aM eWj ?_;refine aw.mk (u,m1,j+1) (nxt _ _ eU) (show E.length*A.rows.length+2-(j+1)<E.length*A.rows.length+2-j by omega) ?_;refine ab (bJ ?_) (bJ ?_) ar
         all_goals first|exact wn _|exact dh _ _|exact⟨wn _,rfl⟩|exact⟨rfl,gm _ _⟩
    ·have hin:i=E.length:=zd
     have d1:decide ((i:Int)<(E.length:Int))=false:=bi;have hph:=Qt hN;have hph0:=Qt hN0
     ((iterate 3 revert K);refine aM d1 ?_)
     refine aw.mk (l,m) ⟨hN,λhm=>RI.fin hN (by rw[<-hin, <- hm];exact hR)⟩ ?_ ?_
     ·cases m
      ·simp;omega
      ·have:=hp2 rfl
       simp;omega
     ·refine ab (bJ ?_) ar ar
      all_goals first|exact dh _ _|exact wn _|exact⟨wn _,rfl⟩|exact⟨wn _,zk⟩
theorem PV(a b:ByteArray):(Op.bytesLess a.toList b.toList||a.toList==b.toList) = !(Op.bytesLess b.toList a.toList):=by
 rcases lp a b with h|h|h
 ·have A:Op.bytesLess a.toList b.toList=true:=cP.2 h
  have u:Op.bytesLess b.toList a.toList=false:=by
   cases q:Op.bytesLess b.toList a.toList
   ·rfl
   ·exact absurd (List.lt_trans h (cP.1 q)) (agf _)
  rw[A,u];rfl
 ·subst h
  have u:Op.bytesLess a.toList a.toList=false:=by
   cases q:Op.bytesLess a.toList a.toList
   ·rfl
   ·exact absurd (cP.1 q) (agf _)
  rw[u];simp
 ·have A:Op.bytesLess b.toList a.toList=true:=cP.2 h
  have u:Op.bytesLess a.toList b.toList=false:=by
   cases q:Op.bytesLess a.toList b.toList
   ·rfl
   ·exact absurd (List.lt_trans h (cP.1 q)) (agf _)
  have H:(a.toList==b.toList)=false:=by
   cases q:(a.toList==b.toList)
   ·rfl
   ·have:=toList_inj.1 q
    subst this;exact absurd h (agf _)
  rw[A,u,H];rfl
def qW(l:Rd):Nat->ByteArray
 |0=>⟨#[]⟩
 |i+1=>(l.map uh.key).getD i ⟨#[]⟩
theorem rS{l:Rd}{i:Nat}(h:i<l.length):qW l (i+1)=l[i].key:=by
 rw[qW,ae2,aeE,aeC h];rfl
def IX(l:Rd)(i:Nat)(p:uh):Bool:=cB p.key&&bo p.val&&(decide (i=0)||Op.bytesLess (qW l i).toList p.key.toList)
theorem Qx{l:Rd}{i:Nat}(h:i<l.length):wI (qW l i) (l.drop i)=(IX l i l[i]&&wI (qW l (i+1)) (l.drop (i+1))):=by
 rw[Kz h,rS h,IX];have e:=PV l[i].key (qW l i);have eL:Kl l[i].key (qW l i)=Op.bytesLess l[i].key.toList (qW l i).toList:=rfl
 have key:∀X Y:Bool,(if(!X)=true then false else Y)=(Y&&X):=zs
 rw[eL,e,key]
 cases i with
 |zero=>
  have A:cB l[0].key=true->Op.bytesLess (qW l 0).toList l[0].key.toList=true:=λu=>by
   rcases lp (⟨#[]⟩:ByteArray) l[0].key with q|q|q
   ·exact cP.2 q
   ·rw[<-q]at u;exact absurd u za
   ·exact absurd q (List.not_lt_nil _)
  by_cases u:cB l[0].key=true
  ·rw[A u,u];simp
  ·rw[Bool.not_eq_true]at u;rw[u];simp
 |succ i=>
  simp only[Nat.succ_ne_zero,decide_false,Bool.false_or];rw[ahn,ahn,ahn,ahn,Bool.and_comm (wI _ _)]
theorem Wn(t:Int):aj prog 108 [.v (.int .i64 t)] (.v (.bool (decide (0<=t∧t<=Ar)))):=by
 refine gE func108 ntmps108 results108 ?_
 by_cases h:0<=t
 ·have d1:decide (0<=t)=true:=decide_eq_true h;refine dj d1 ?_
  congr 2
  exact propext ⟨λq=>⟨h,q⟩,λq=>q.2⟩
 ·have d1:decide (0<=t)=false:=decide_eq_false h;have d2:decide (0<=t∧t<=Ar)=false:=bi;rw[d2];exact E9 d1
structure JB(e:bH):Prop where
 bP:e.bP.size<=1000000000000000
 to:e.to.size<=1000000000000000
 label:e.label.size<=1000000000000000
 props:∀p∈e.props,p.key.size<=1000000000000000∧p.val.text.size<=1000000000000000
 len:e.props.length<=16777216
theorem LI(e:bH)(W:JB e):aj prog 69 [.agg (aR e)] (.v (.int .i64 (nL e))):=by
 have C1:=sh e.bP W.bP;have C2:=sh e.to W.to;have C3:=yk e.label W.label;have C4:=Wn e.time;have hpl:=W.len;have V:=W.props;have CF:∀p∈e.props,aj prog 106 [.v (.string p.key)] (.v (.bool (cB p.key))):=λp hp=>yk p.key (V p hp).1;have CV:∀p∈e.props,aj prog 107 [.agg (To p.val)] (.v (.bool (bo p.val))):=λp hp=>M4 p.val (V p hp).2;generalize u:nL e=R;rw[nL,Bh]at u;obtain⟨fr,to,lb,tm,ps⟩:=e;simp only at *
 have eN:(ps.map cX).length=ps.length:=zk
 simp only[aR]
 (refine aj.enter func69 rfl zo zo rfl (by simp only[go_sem,aU,AV.wf,agA,afo,afu,cM]) (by simp only[go_sem,aU,AV.wf,bz,agA,afo,afu,cM]) ?_;simp only[ntmps69,results69,List.length_cons,List.length_nil,Nat.reduceAdd,Nat.reduceSub,List.replicate_succ,List.replicate_zero,List.cons_append,List.nil_append])
 (refine bj ?_;intro K hK K hK K hK)
 refine ai.one C1 ?_
 cases h1:fU fr
 ·rw[h1]at u;simp only[afL,afC,if_false]at u
  ((iterate 3 revert K);refine cw h1 ?_)
  rw[<-u]
 rw[h1]at u
 ((iterate 3 revert K);refine cw h1 ?_;intro K hK K hK K hK)
 refine ai.one C2 ?_
 cases O:fU to
 ·rw[O]at u;simp only[afL,afW,afC,if_false]at u
  ((iterate 3 revert K);refine cw O ?_)
  rw[<-u]
 rw[O]at u
 ((iterate 3 revert K);refine cw O ?_;intro K hK K hK K hK)
 refine ai.one C3 ?_
 cases Y:cB lb
 ·rw[Y]at u;simp only[afL,afW,afC,if_false]at u
  ((iterate 3 revert K);refine cw Y ?_)
  rw[<-u]
 rw[Y]at u;simp only[agA,afu]at u
 by_cases h8:ps.length<=8
 case neg=>
  have d8:decide ((8:Int)<(ps.length:Int))=true:=b0;rw[decide_eq_false h8]at u;simp only[afW,afC,if_false]at u
  ((iterate 3 revert K);refine cw (rL Y d8) ?_)
  rw[<-u]
 have d8:decide ((8:Int)<(ps.length:Int))=false:=bi;rw[decide_eq_true h8]at u;simp only[afo]at u
 ((iterate 3 revert K);refine cw (rL Y d8) ?_;intro K hK)
 refine bg (ι:=Nat) 26 (λk=>[(3,.v (.int .i64 (k:Nat)))]) (λk=>ps.length-k) (λk=>k<=ps.length∧(if wI (qW ps k) (ps.drop k)=true then(if 0<=tm∧tm<=Ar then 0 else 6)else 2)=R) 0 ⟨aex _,u⟩ ?_ ?_
 ·refine ab (bJ ?_) ar ar
  all_goals first|rfl|exact⟨cM _ _,rfl⟩
 ·rintro k ⟨hk,q⟩ K hK
  rcases Nat.lt_or_ge k ps.length with h|h
  ·have d1:decide ((k:Int)<(ps.length:Int))=true:=b0;have eG:=CB h;have ws:=ag (k:=k) zd;rw[Qx h,IX]at q;have CF1:=CF _ (afy h);have CV1:=CV _ (afy h);have hl:=rS h
   cases k with
   |zero=>
    simp only[decide_true,Bool.true_or,afo]at q
    have d2:decide ((0:Int)<((0:Nat):Int))=false:=zs
    (revert K;revert K;refine cw (nq d1 d2 eG) ?_;iterate 5 intro K hK)
    refine b8.one CF1 ?_
    cases H:cB ps[0].key
    ·rw[H]at q;simp only[afL,afC,if_false]at q
     ((iterate 5 revert K);refine cw H ?_)
     rw[q]
    ·rw[H]at q;simp only[afu]at q
     ((iterate 5 revert K);refine cw (rL H eG) ?_;iterate 5 intro K hK)
     refine b8.one CV1 ?_
     cases A:bo ps[0].val
     ·rw[A]at q;simp only[afL,afC,if_false]at q
      ((iterate 5 revert K);refine cw A ?_)
      rw[q]
     ·rw[A]at q;simp only[afu]at q
      ((iterate 5 revert K);refine cw (nq A d2 ws) ?_)
      refine aw.mk 1 ⟨h,q⟩ (show ps.length-1<ps.length-0 by omega) ?_;exact ab ar ar ar
      all_goals first|rfl|exact⟨cM _ _,rfl⟩
   |succ k=>
    have O:k<ps.length:=zd
    have eG2:=CB O;have d2:decide ((0:Int)<((k+1:Nat):Int))=true:=b0
    have U:IntKind.i64.wrap (((k+1:Nat):Int)-1)=(k:Nat):=by rw[bT zd zd];omega
    simp only[rS O,Nat.succ_ne_zero,decide_false,Bool.false_or]at q
    (revert K;revert K;refine cw (nq d1 d2 eG) ?_;iterate 5 intro K hK)
    refine b8.one CF1 ?_
    cases H:cB ps[k+1].key
    ·rw[H]at q;simp only[afL,afC,if_false]at q
     ((iterate 5 revert K);refine cw H ?_)
     rw[q]
    ·rw[H]at q;simp only[afu]at q
     ((iterate 5 revert K);refine cw (rL H eG) ?_;iterate 5 intro K hK)
     refine b8.one CV1 ?_
     cases A:bo ps[k+1].val
     ·rw[A]at q;simp only[afL,afC,if_false]at q
      ((iterate 5 revert K);refine cw A ?_)
      rw[q]
     ·rw[A]at q;simp only[afu]at q
      cases hb:Op.bytesLess ps[k].key.toList ps[k+1].key.toList
      ·rw[hb]at q;simp only[afL,afC,if_false]at q
       ((iterate 5 revert K);refine cw (L7 A d2 ws U eG eG2 hb) ?_)
       rw[q]
      ·rw[hb]at q;simp only[afu]at q
       ((iterate 5 revert K);refine cw (L7 A d2 ws U eG eG2 hb) ?_)
       refine aw.mk (k+2) ⟨h,q⟩ (show ps.length-(k+2)<ps.length-(k+1) by omega) ?_;exact ab ar ar ar
       all_goals first|rfl|exact⟨cM _ _,rfl⟩
  ·have hin:k=ps.length:=zd
   have d1:decide ((k:Int)<(ps.length:Int))=false:=bi;rw[hin,List.drop_length,wI]at q;simp only[if_true]at q
   (revert K;revert K;refine aM d1 ?_;intro K hK K hK K hK)
   refine ai.one C4 ?_
   by_cases ht:0<=tm∧tm<=Ar
   ·rw[if_pos ht]at q
    ((iterate 3 revert K);refine aM (decide_eq_true ht) ?_)
    rw[q]
   ·rw[if_neg ht]at q
    ((iterate 3 revert K);refine aM (decide_eq_false ht) ?_)
    rw[q]
theorem PB{part:Do}:∀{r s:bC},r.map Prod.fst=s.map Prod.fst->y8 part r=y8 part s->r.flatMap (λe=>32::(e.1.data.toList++32::Lib.decDigits (part.getD e.2 0)))=s.flatMap (λe=>32::(e.1.data.toList++32::Lib.decDigits (part.getD e.2 0)))
 | [],[],_,_=>rfl
 | [],b::s,h,_=>by simp at h
 |a::r,[],h,_=>by simp at h
 |a::r,b::s,h,k=>by
  simp only[aga,agv,y8]at h k;rw[List.flatMap_cons,List.flatMap_cons,PB (r:=r) (s:=s) h.2 k.2,h.1,k.1]
theorem Qj{part:Do}{p:Nat}{r s:bC}(h:r.map Prod.fst=s.map Prod.fst)(k:y8 part r=y8 part s):du part p r=du part p s:=by
 rw[du,du,yW,yW,PB h k]
def ad3(rows:N3)(ends:N2)(part:Do):Prop:=∀s t,s<rows.length->t<rows.length->part.getD s 0≠part.getD t 0->∃w,dR rows ends s w≠dR rows ends t w
section
variable {α β:Type} [DecidableEq α] [DecidableEq β]
def wy(st:List α×Do)(x:α):List α×Do:=match st.1.findIdx? (λy=>decide (x=y))with
 |some k=>(st.1,st.2++[k])
 |none=>(st.1++[x],st.2++[st.1.length])
theorem EX{γ:Type}{f:γ->α}{g:γ->β}:∀(ds:List γ)(c:γ),(∀d∈ds,f c=f d↔g c=g d)->(ds.map f).findIdx? (λy=>decide (f c=y))=(ds.map g).findIdx? (λy=>decide (g c=y))
 | [],c,_=>rfl
 |d::ds,c,h=>by
  rw[aga,aga,aho,aho,EX ds c (λe q=>h e (ae7 _ q))]
  grind
theorem Tr{f:Nat->α}{g:Nat->β}{n:Nat}(h:∀i j,i<n->j<n->(f i=f j↔g i=g j)):∀m,m<=n->∃ds:Do,(∀d∈ds,d<n)∧((List.range m).map f).foldl wy ([],[])=(ds.map f,(((List.range m).map g).foldl wy ([],[])).2)∧(((List.range m).map g).foldl wy ([],[])).1=ds.map g:=λm=>by
 induction m with
 |zero=>grind
 |succ m ih=>
  intro hm;obtain⟨ds,O,H,A⟩:=ih zd;rw[List.range_succ,agY,agY,agH,agH,H];simp only[aga,List.map_nil,afO,List.foldl_nil];rw[wy,wy,A];simp only;rw[EX ds m (λd u=>h m d zd (O d u))]
  cases q:(ds.map g).findIdx? (λy=>decide (g m=y))with
  |some k=>grind
  |none=>exact⟨ds++[m],λd u=>by
    grind,zk,zk⟩
end
def iW(labs:B0)(r:bC):M2:=labs.map (λl=>match look r l with
 |some t=>(t:Int)
 |none=> -1)
theorem fD(labs:B0)(r:bC):(iW labs r).length=labs.length:=by rw[iW,agG]
theorem Gt{labs:B0}{l:ByteArray}{r q:bC}(h:∀m∈labs,look q m=look r m):iW (labs++[l]) q=iW labs r++[match look q l with
 |some t=>(t:Int)
 |none=> -1]:=by
 grind[iW,List.map_congr_left]
section
variable (cN:Do->ByteArray->Do)
def rIn(cur:Do)(st:List Do×M2)(lab:ByteArray):List Do×M2:=match st.1.findIdx? (λy=>cN cur lab==y)with
 |some k=>(st.1,st.2++[(k:Int)])
 |none=>if cN cur lab=[]then(st.1,st.2++[-1])else(st.1++[cN cur lab],st.2++[(st.1.length:Int)])
def ze(cur:Do)(all:List Do)(labs:B0):List Do×M2:=labs.foldl (rIn cN cur) (all,[])
theorem Bp(cur:Do)(all:List Do)(labs:B0)(l:ByteArray):ze cN cur all (labs++[l])=rIn cN cur (ze cN cur all labs) l:=by rw[ze,agH];rfl
theorem Ur(all:List Do)(s:Do):pos (all.map lG) (lG s)=all.findIdx? (λy=>s==y):=by
 rw[pos]
 have:∀l:List Do,(l.map lG).findIdx? (λx=>fQ (lG s) x)=l.findIdx? (λy=>s==y):=λl=>by
  induction l with
  |nil=>rfl
  |cons a l ih=>
   rw[aga,aho,aho,ih]
   by_cases e:s=a
   ·subst e;rw[mZ.2 rfl,beq_self_eq_true]
   grind[Fo,mZ,beq_eq_false_iff_ne]
 grind
theorem Nb(cur:Do)(all:List Do):∀labs:B0,∀l∈(fL cN cur all labs).2.map Prod.fst,l∈labs:=by
 refine iq (by simp[fL]) ?_
 grind[lx,GV,List.mem_append_left,List.mem_singleton]
theorem KI(cur:Do){all:List Do}(V:[]∉all):∀labs:B0,labs.Nodup->ze cN cur all labs=((fL cN cur all labs).1,iW labs (fL cN cur all labs).2)∧[]∉(fL cN cur all labs).1:=by
 refine iq (λ_=>⟨rfl,V⟩) ?_;intro labs l ih hn;rw[List.nodup_append]at hn;obtain⟨e,U⟩:=ih hn.1;have hl:look (fL cN cur all labs).2 l=none:=lq.2 λu=>hn.2.2 l (Nb cN cur all labs l u) l zk rfl
 have hother:∀k m,m∈labs->look ((fL cN cur all labs).2++[(l,k)]) m=look (fL cN cur all labs).2 m:=λk m u=>by
  have:m≠l:=λq=>hn.2.2 m u l zk q
  rw[ke,kf,if_neg this,Option.or_none]
 have O:∀k,look ((fL cN cur all labs).2++[(l,k)]) l=some k:=λk=>by rw[ke,kf,if_pos rfl,hl];rfl
 rw[Bp,lx,e,rIn,GV,Ur];simp only
 by_cases A:cN cur l=[]
 ·have H:(fL cN cur all labs).1.findIdx? (λy=>cN cur l==y)=none:=by
   grind
  simp only[H,if_pos A];refine⟨?_,U⟩;rw[Gt (r:=(fL cN cur all labs).2) (λm _=>rfl),hl]
 ·simp only[if_neg A]
  grind[Gt,List.mem_singleton]
end
def jO(labs:B0)(rows:N3)(part:Do)(i:Nat):M2:=(part.getD i 0:Int)::(iW labs (rows.getD i [])).map (λt=>if t<0 then -1 else(part.getD t.toNat 0:Int))
theorem QI{labs:B0}{rows:N3}{part:Do}(Y:∀r∈rows,lZ (r.map Prod.fst))(hL:∀r∈rows,∀l∈r.map Prod.fst,l∈labs)(hn:tv rows){s t:Nat}(U:s<rows.length)(W:t<rows.length) :
  du part (part.getD s 0) (rows.getD s [])=du part (part.getD t 0) (rows.getD t [])↔jO labs rows part s=jO labs rows part t:=by
 have val:∀i l,l∈labs->∀(j:Nat),labs[j]?=some l->((iW labs (rows.getD i [])).map (λt=>if t<0 then -1 else(part.getD t.toNat 0:Int)))[j]?=some (match look (rows.getD i []) l with
   |some t=>(part.getD t 0:Int)
   |none=> -1):=λi l hl j O=>by
  rw[iW,List.map_map,aeE,O,Option.map_some,Function.comp]
  grind
 constructor
 ·intro h;obtain⟨h1,h2,h3⟩:=A9 (xa _ hn s) (xa _ hn t) h;rw[jO,jO,h1]
  congr 1
  refine List.ext_getElem? λj=>?_
  by_cases O:j<labs.length
  ·have e:=aeC O
   grind[afy,yI]
  grind[List.getElem?_eq_none,agG,fD]
 ·intro h;rw[jO,jO,agv]at h;obtain⟨h1,h2⟩:=h
  have u:∀l∈labs,(match look (rows.getD s []) l with|some t=>(part.getD t 0:Int)|none=> -1)=(match look (rows.getD t []) l with|some t=>(part.getD t 0:Int)|none=> -1):=λl hl=>by
   obtain⟨j,O,e⟩:=List.getElem_of_mem hl;have e:=(aeC O).trans (congrArg some e)
   grind
  have H:=Y _ (bK (d:=[]) U);have A:=Y _ (bK (d:=[]) W)
  have one:∀{a b:Nat},a<rows.length->(∀l∈labs,(match look (rows.getD a []) l with|some t=>(part.getD t 0:Int)|none=> -1)=(match look (rows.getD b []) l with|some t=>(part.getD t 0:Int)|none=> -1))->∀l,l∈(rows.getD a []).map Prod.fst->l∈(rows.getD b []).map Prod.fst:=λ{a b}ha u l hl=>by
   have q:=hL _ (bK (d:=[]) ha) l hl
   have:=u l q
   refine Classical.byContradiction λhn=>?_
   grind[lq]
  have V:=mX H A λl=>⟨one U u l,one W (λl hl=>(u l hl).symm) l⟩;refine Eq.trans (by grind) (Qj V ?_)
  have hlen:(rows.getD s []).length=(rows.getD t []).length:=by simpa using congrArg List.length V
  refine List.ext_getElem (by grind[y8,agG]) λi k1 k2=>?_
  have i1:i<(rows.getD s []).length:=by grind[y8,agG]
  have i2:i<(rows.getD t []).length:=zd
  have q:(rows.getD s [])[i].1=(rows.getD t [])[i].1:=by
   have:=List.getElem_of_eq V (i:=i) (by grind)
   grind
  have hm:=hL _ (bK (d:=[]) U) _ (List.mem_map_of_mem (f:=Prod.fst) (afy i1))
  have:=u _ hm
  rw[Dd (oF H) (show((rows.getD s [])[i].1,(rows.getD s [])[i].2)∈_ from afy i1),q,Dd (oF A) (show((rows.getD t [])[i].1,(rows.getD t [])[i].2)∈_ from afy i2)]at this
  grind[y8,Int.ofNat_inj]
def iS(labs:B0)(rows:N3)(part:Do)(n:Nat):List M2×Do:=((List.range n).map (jO labs rows part)).foldl wy ([],[])
theorem Ui(rows:N3)(part:Do)(n:Nat):fA rows part n=((List.range n).map (λs=>du part (part.getD s 0) (rows.getD s []))).foldl wy ([],[]):=by
 induction n with
 |zero=>rfl
 |succ n ih=>
  rw[vc,ih,List.range_succ,agY,agH];simp only[aga,List.map_nil,afO,List.foldl_nil];rw[Zo,wy,pos]
  have:(λx=>fQ (du part (part.getD n 0) (rows.getD n [])) x)=(λy=>decide (du part (part.getD n 0) (rows.getD n [])=y)):=by
   funext x
   rw[Bool.eq_iff_iff,mZ,decide_eq_true_eq]
  grind
theorem tR{labs:B0}{rows:N3}{part:Do}(u:∀r∈rows,lZ (r.map Prod.fst))(A:∀r∈rows,∀l∈r.map Prod.fst,l∈labs)(hn:tv rows){n:Nat}(h:n<=rows.length):(iS labs rows part n).2=(fA rows part n).2∧(iS labs rows part n).1.length=(fA rows part n).1.length:=by
 obtain⟨ds,_,O,H⟩:=Tr (f:=λs=>du part (part.getD s 0) (rows.getD s [])) (g:=jO labs rows part) (n:=rows.length) (λi j hi q=>QI u A hn hi q) n h
 grind[Ui,iS]
def qZ(labs:B0)(rows:N3):Nat->Do->Nat->Bool->Do
 |0,part,_,_=>part
 |f+1,part,many,first=>if(iS labs rows part rows.length).1.length=many∧first=false then(iS labs rows part rows.length).2 else qZ labs rows f (iS labs rows part rows.length).2 (iS labs rows part rows.length).1.length false
theorem F7{labs:B0}{rows:N3}(A:∀r∈rows,lZ (r.map Prod.fst))(H:∀r∈rows,∀l∈r.map Prod.fst,l∈labs)(hn:tv rows):∀(f:Nat){part:Do}{many:Nat},XB rows part many->rows.length+1<=f+many->qZ labs rows f part many false=qP rows (f+1) part many
 |0,part,many,u,O=>by
  have:=ou rows u
  grind[pR]
 |f+1,part,many,u,O=>by
  obtain⟨V,U⟩:=tR A H hn (part:=part) (Nat.le_refl _);rw[qZ,qP,V,U]
  by_cases h:gX rows part=many
  ·rw[if_pos h,if_pos ⟨h,rfl⟩];rfl
  ·rw[if_neg h,if_neg (λq=>h q.1)]
   have:=ou rows u
   exact F7 A H hn f (pS rows part) (by grind[gX,part])
theorem MM{labs:B0}{rows:N3}{ends:N2}(A:∀r∈rows,lZ (r.map Prod.fst))(H:∀r∈rows,∀l∈r.map Prod.fst,l∈labs)(hn:tv rows)(O:0<rows.length):qZ labs rows (rows.length+1) (p0 ends) 1 true=b9 rows ends:=by
 obtain⟨V,U⟩:=tR A H hn (part:=p0 ends) (Nat.le_refl _);have u:0<gX rows (p0 ends):=Nat.lt_of_le_of_lt (aex _) (lJ rows (part:=p0 ends) O);rw[qZ,if_neg (λq=>by cases q.2),b9,qP,if_neg zd,V,U];exact F7 A H hn rows.length (pS rows (p0 ends)) (by grind[gX,p0])
theorem qz{σ:Type}(f:σ->Option Nat->σ)(u:∀s,f s none=s):∀{labs:B0}{row:bC}(s:σ),labs.Nodup->(row.map Prod.fst).Sublist labs->labs.foldl (λs l=>f s (look row l)) s=row.foldl (λs p=>f s (some p.2)) s
 | [],row,s,_,h=>by
  simp_all
 |l::labs,row,s,hn,h=>by
  rw[List.nodup_cons]at hn;rw[afO]
  cases row with
  |nil=>
   show labs.foldl _ (f s none)=_;rw[u];exact qz f u (row:=[]) s hn.2 zk
  |cons e row=>
   rw[aga]at h
   by_cases hl:l=e.1
   ·subst hl
    have A:(row.map Prod.fst).Sublist labs:=by simpa using h
    have O:look (e::row) e.1=some e.2:=by rw[look,List.find?_cons,mZ.2 rfl];rfl
    rw[O,afO, <- qz f u (f s (some e.2)) hn.2 A]
    have:∀(ls:B0),(∀m∈ls,m∈labs)->∀s,ls.foldl (λs l=>f s (look (e::row) l)) s=ls.foldl (λs l=>f s (look row l)) s:=λls=>by
     induction ls with
     |nil=>grind
     |cons m ls ih=>
      grind[List.mem_cons_self,look,fQ,absurd,mZ,ae7]
    grind
   ·have A:((e::row).map Prod.fst).Sublist labs:=by
     grind
    have H:look (e::row) l=none:=lq.2 λq=>hn.1 (A.subset q);rw[H,u];exact qz f u s hn.2 A
def DA(part:Do)(order:Do)(o:Option Nat):Do:=match o with
 |none=>order
 |some t=>match kV part order (part.getD t 0)with
  |some _=>order
  |none=>order++[t]
theorem QU{part:Do}:∀(row:bC)(order:Do),row.foldl (λo p=>DA part o (some p.2)) order=(fW part order row).1:=by
 refine iq (λorder=>rfl) ?_
 grind[mU,DA,KD,kV,part,fW]
theorem UE{labs:B0}{row:bC}(part order:Do)(hn:labs.Nodup)(h:(row.map Prod.fst).Sublist labs):labs.foldl (λo l=>DA part o (look row l)) order=(fW part order row).1:=by
 rw[qz (DA part) (λ_=>rfl) order hn h,QU]
theorem Uy{part order:Do}(hn:(order.map (λs=>part.getD s 0)).Nodup){k:Nat}(u:k<order.length){x:Nat}(h:part.getD (order.getD k 0) 0=x):kV part order x=some k:=by
 rw[kV,afv]
 have q:k<(order.map (λs=>part.getD s 0)).length:=by grind
 have e:(order.map (λs=>part.getD s 0))[k]=x:=by
  grind
 refine⟨q,by grind,λj A=>?_⟩;rw[Bool.not_eq_true,beq_eq_false_iff_ne]
 grind[List.pairwise_iff_getElem]
theorem Nq{labs:B0}{rows:N3}{ends:N2}{part:Do}{st:BZ}(U:La rows part st)(O:QW rows ends part st){k:Nat}(V:k<st.rows.length):iW labs (st.rows.getD k [])=(iW labs (rows.getD (st.order.getD k 0) [])).map (λt=>if t<0 then -1 else match kV part st.order (part.getD t.toNat 0)with
  |some j=>(j:Int)
  |none=> -1):=by
 rw[iW,iW,List.map_map];refine List.map_congr_left λl _=>?_;obtain⟨Y,W⟩:=O.row k V l;rw[Function.comp]
 cases q:look (rows.getD (st.order.getD k 0) []) l with
 |none=>grind
 |some t=>
  obtain⟨j,H,A,u⟩:=W t q;rw[H];simp only[show ¬((t:Int)<0) by omega,if_false,Int.toNat_natCast,Uy U.nd A u]
theorem Pk(l:M2){i:Nat}(h:i<l.length):(l.map encI).getD i []=[.v (.int .i64 l[i])]:=by
 rw[ae2,aeE,aeC h];rfl
@[go_sem] theorem RP(n:Nat)(l:M2):bD n (l.map encI)=true:=bw _ (λ_=>rfl) _
theorem Q3(a b:M2)(ha:a.length<=1000000)(hb:b.length<=1000000):aj prog 178 [.aB 1 (a.map encI) a.length,.aB 1 (b.map encI) b.length] (.v (.bool (decide (a=b)))):=by
 generalize u:decide (a=b)=rv;refine gE func178 ntmps178 results178 ?_
 (refine bj ?_;intro K hK)
 refine bg (ι:=Nat) 6 (λi=>[(5,.v (.int .i64 i))]) (λi=>a.length-i) (λi=>i<=a.length∧i<=b.length∧a.take i=b.take i) 0 ⟨aex _,aex _,zk⟩ ?_ ?_
 ·refine ab (bJ ?_) ar ar
  all_goals rfl
 ·rintro i ⟨h1,h2,U⟩ K hK;have eW:=ag (k:=i) zd
  have out:(i<a.length-> ¬i<b.length)->((a.length:Int)==(b.length:Int))=rv:=λW=>by
   rw[<-u,Bool.eq_iff_iff,beq_iff_eq,decide_eq_true_eq];refine⟨λe=>?_,λe=>by rw[e]⟩
   have e':a.length=b.length:=zd
   have hi:i=a.length:=by
    rcases Nat.lt_or_ge i a.length with q|q
    ·exact absurd zd (W q)
    ·omega
   rw[hi,List.take_length,e',List.take_length]at U;exact U
  by_cases d1:i<a.length
  ·have A:decide ((i:Int)<(a.length:Int))=true:=b0
   by_cases d2:i<b.length
   ·have V:decide ((i:Int)<(b.length:Int))=true:=b0;have gA:=Pk a d1;have gB:=Pk b d2
    repeat(first|(with_reducible first|refine bG.up ?_|refineλ(K:AK)hK=>?_|refine wD ?_|(refine hK _ ?_;clear hK K))|simp only[go_sem,A,V,gA,gB,Go.undef]|with_reducible refine wA ?_|clear hK K)
    refine cn.part (λg=>?_) (λg=>?_)
    ·have O:a[i]≠b[i]:=by replace g:=cq g;exact g
     have:rv=false:=by
      rw[<-u,decide_eq_false_iff_not];intro e;subst e;exact O rfl
     ((iterate 3 revert K);refine bj ?_)
     rw[this]
    ·have Y:a[i]=b[i]:=by replace g:=cq g;exact g
     ((iterate 3 revert K);refine aM eW ?_)
     exact aw.mk (i+1) ⟨d1,d2,by rw[agO d1,agO d2,U,Y]⟩ zd (by exact ab ar ar ar)
   ·have V:decide ((i:Int)<(b.length:Int))=false:=bi;have H:=out λ_=>d2
    (revert K;revert K;refine cw (rL A V) ?_)
    rw[H]
  ·have A:decide ((i:Int)<(a.length:Int))=false:=bi;have H:=out λq=>absurd q d1
   (revert K;revert K;refine cw A ?_)
   rw[H]
def fq(L:List M2):List C5:=L.map (λl=>[AV.aB 1 (l.map encI) l.length])
theorem gS(L:List M2):(fq L).length=L.length:=by simp[fq]
theorem sP(L:List M2){i:Nat}(h:i<L.length):(fq L).getD i []=[.aB 1 (L[i].map encI) L[i].length]:=by
 rw[ae2,fq,aeE,aeC h];rfl
@[go_sem] theorem oL(n:Nat)(L:List M2):bD n (fq L)=true:=bw _ (λl=>by simp only[aU,AV.wf,RP,agA]) _
def V7(L:List M2)(s:M2):Int:=match L.findIdx? (λy=>decide (s=y))with
 |some k=>(k:Int)
 |none=> -1
theorem Oh(L:List M2)(s:M2)(hL:L.length<=1000000)(hl:∀l∈L,l.length<=1000000)(Y:s.length<=1000000):aj prog 141 [.aB 1 (fq L) L.length,.aB 1 (s.map encI) s.length] (.v (.int .i64 (V7 L s))):=by
 generalize A:V7 L s=rv;refine gE func141 ntmps141 results141 ?_
 (refine ae ?_;intro K hK)
 refine bg (ι:=Nat) 6 (λi=>[(5,.v (.int .i64 i))]) (λi=>L.length-i) (λi=>i<=L.length∧∀(j:Nat)(h:j<L.length),j<i->L[j]≠s) 0 ⟨aex _,λj _ h=>absurd h (Nat.not_lt_zero _)⟩ ?_ ?_
 ·refine ab (bJ ?_) ar ar
  all_goals rfl
 ·rintro i ⟨h1,V⟩ K hK;have eW:=ag (k:=i) zd
  (revert K;revert K;refine ae ?_;intro K hK K hK K hK)
  refine cn.part (λg=>?_) (λg=>?_)
  ·have u:i<L.length:=by replace g:=qs g;omega
   have eG:=sP L u;have C:=Q3 L[i] s (hl _ (afy u)) Y
   ((iterate 3 revert K);refine ak (nq g eG @gS) ?_;iterate 5 intro K hK)
   refine ai.one C ?_
   by_cases O:L[i]=s
   ·have W:decide (L[i]=s)=true:=decide_eq_true O
    have:(i:Int)=rv:=by
     rw[<-A,V7]
     have:L.findIdx? (λy=>decide (s=y))=some i:=by
      rw[afv];exact⟨u,decide_eq_true O.symm,λj H=>by simpa usingλq=>V j zd H q.symm⟩
     rw[this]
    ((iterate 5 revert K);refine ak W ?_)
    rw[this]
   ·have W:decide (L[i]=s)=false:=decide_eq_false O
    ((iterate 5 revert K);refine fc W eW ?_)
    refine aw.mk (i+1) ⟨u,λj H U=>?_⟩ zd (by exact ab ar ar ar)
    rcases Nat.lt_succ_iff_lt_or_eq.1 U with q|rfl
    ·exact V j H q
    ·exact O
  ·have hin:i=L.length:=by replace g:=qs g;omega
   have:rv = -1:=by
    rw[<-A,V7]
    have:L.findIdx? (λy=>decide (s=y))=none:=by
     rw[List.findIdx?_eq_none_iff];intro y hy;obtain⟨j,H,rfl⟩:=List.getElem_of_mem hy;exact decide_eq_false λq=>V j H zd q.symm
    rw[this]
   ((iterate 3 revert K);refine ae ?_)
   rw[this]
theorem oN{n:Nat}{a b:AC}:∀{l:AC},(∀ob,some ob∈l->bD n ob.rows=true)->zQ n a b->zQ n (l++a) (l++b)
 | [],_,h=>h
 |x::l,hl,h=>⟨.inr ⟨rfl,λob e=>hl ob (by rw[e];simp)⟩,oN (λob q=>hl ob (List.mem_cons_of_mem _ q)) h⟩
theorem qc(n N:Nat)(f:GT):∀(m:Nat)ob,some ob∈bA N f m->bD n ob.rows=true
 |0,ob,h=>by cases h
 |m+1,ob,h=>by
  rw[gd,List.mem_append]at h
  rcases h with h|h
  ·exact qc n N f m ob h
  ·simp only[List.mem_cons,List.not_mem_nil,or_false,reduceCtorEq]at h;rw[l6]at h;cases h;exact bp _ _ _
theorem GL{n k N m:Nat}{f:GT}(h:k+2*m<=n):zQ n (cA k N m f) (cA k N m f):=by
 have:=oN (n:=n) (a:=[]) (b:=[]) (l:=cA k N m f) (λob q=>by
  rw[cA,List.mem_cons]at q
  rcases q with e|q
  ·cases e;exact lX h
  ·exact qc _ _ _ _ _ q) trivial
 simpa using this
theorem zZ(N m:Nat):bu 0 N (m+1)=bu 0 N m++[[.vec (2*m+1) N]]:=by
 rw[fy,show mV 0 m=2*m+1 by unfold mV;omega]
theorem It{N m:Nat}{f:GT}{a b:Option aa}:(bA N f m++[a,b])[2*m+1]?=some b:=by
 rw[List.getElem?_append_right (by rw[ah];omega),ah,show 2*m+1-2*m=1 by omega];rfl
theorem FG(n:Nat)(hn:n<=1000):bR prog 229 [.v (.int .i64 n)] [] (.vec 0 (n+1)) (cA 0 (n+1) (n+1) (λ_ _=>false)):=by
 have eN:=ag (k:=n) zd;refine gF func229 ntmps229 results229 ?_
 (refine ae ?_;intro K hK)
 refine gu (ι:=Nat) 3 121 1 rfl zs 5 (λi=>[(3,.vec 0 i),(4,.v (.int .i64 i))]) (λi=>cA 0 (n+1) i (λ_ _=>false)) (λi=>n+1-i) (λi=>i<=n+1) 0 zd ?_ ?_
 ·refine ab (bJ ?_) (bJ ?_) (bJ ?_)
  ·exact⟨rfl,rfl⟩
  ·exact GL (by simp[cA])
  ·exact aex _
 ·intro i hi K hK;simp only[cA]
  (revert K;revert K;refine ae ?_;intro K hK K hK K hK)
  refine cn.part (λh=>?_) (λh=>?_)
  ·have eW:=ag (k:=i) (by replace h:=cq h;omega);have eL:([AV.v (.bool false)]::List.replicate n [AV.v (.bool false)])=dK (n+1) (λ_=>false):=lu (n+1)
   ((iterate 3 revert K);refine ak (qq eN eW eL @ah @It) ?_)
   refine aw.mk (i+1) (by replace h:=cq h;omega) (by replace h:=cq h;omega) (ab ?_ ?_ ?_)
   ·simp only[cA,ah,afa];simp only[go_sem,iV,true_or,or_true,true_and,and_true];exact .inr (b0)
   ·show zQ (cA 0 (n+1) (i+1) (λ_ _=>false)).length _ (cA 0 (n+1) (i+1) (λ_ _=>false));generalize A:(cA 0 (n+1) (i+1) (λ_ _=>false)).length=z
    have u:z=2*(i+1)+1:=by rw[<-A,cA,afa,ah]
    have q:bD z (bu 0 (n+1) (i+1))=true:=lX zd;simp only[cA,gd];refine⟨.inr ⟨by rw[zZ],λob e=>by cases e;exact q⟩,oN (λob h=>qc _ _ _ _ _ h) ⟨.inr ⟨rfl,λob e=>by cases e;exact bp _ _ _⟩,.inl rfl,trivial⟩⟩
   ·exact aex _
  ·have H:i=n+1:=by replace h:=cq h;omega
   simp only[H]
   ((iterate 3 revert K);refine ae ?_)
   refine⟨?_,?_,aex _⟩
   ·exact⟨.inr ⟨rfl,decide_eq_true (by simp[cA])⟩,trivial⟩
   ·exact GL (by simp[cA,ah])
theorem mi(f:Nat->Nat)(N:Nat)(g:Nat->Bool):cm f (dK N g)=dK N g:=bn f _ (bp 0 N g)
theorem vg(f:Nat->Nat):∀(a:List C5)(b:C5),cm f (a++[b])=cm f a++[bV f b]
 | [],b=>rfl
 |x::a,b=>by rw[afK,cm,vg f a b];rfl
theorem wc(k N:Nat):∀m,cm (sig [] k) (bu 0 N m)=bu k N m
 |0=>rfl
 |m+1=>by
  rw[fy,fy,vg,wc k N m];simp only[cm,bV,AV.ba,sig,aeq,Nat.not_lt_zero,if_false,mV];rw[show k+(0+1+2*m-0)=k+1+2*m by omega]
theorem QO(k N:Nat)(f:GT):∀m,(cA 0 N m f).map (Option.map (aa.ba (sig [] k)))=cA k N m f:=λm=>by
 have h:∀m,(bA N f m).map (Option.map (aa.ba (sig [] k)))=bA N f m:=λm=>by
  induction m with
  |zero=>rfl
  |succ m ih=>rw[gd,List.map_append,ih];simp only[List.map_cons,List.map_nil,l6,Option.map_some,Option.map_none,aa.ba,mi]
 rw[cA,List.map_cons,h,Option.map_some,aa.ba,cA];simp only[wc]
theorem ai.Dk{n:Nat}{o:AC}{K:AV->AC->Prop}(hn:n<=1000)(k:K (.vec o.length (n+1)) (o++cA o.length (n+1) (n+1) (λ_ _=>false))):ai prog 229 [.v (.int .i64 n)] o K:=by
 refine ai.fr [] (FG n hn) List.nodup_nil rfl rfl rfl (λk ob h=>by simp at h) ?_;have q:(AV.vec 0 (n+1)).ba (sig [] o.length)=.vec o.length (n+1):=rfl;rw[q,fj,QO];exact k
theorem jj(k N m:Nat)(f:GT):(cA k N m f).length=2*m+1:=by rw[cA,afa,ah]
theorem si{t q:C5}{y:kz}{N m:Nat}{f:GT}(h:iV (2*m+1) t q):Wk 0 ⟨t,some ⟨121,1,true,bu 0 N m⟩ ::bA N f m,y⟩ ⟨q,cA 0 N m f,y⟩:=
 ab (by rw[jj];exact h) (by rw[jj];exact GL zd) (aex _)
def YW(i j:Nat):Bool:=decide (i=j)
def wu(i p q:Nat):Bool:=decide (p=q)&&decide (p<i)
theorem LR(i:Nat):oH (wu i) i i true=wu (i+1):=by
 funext p q
 rw[oH,wu,wu]
 split
 ·rename_i h;obtain⟨rfl,rfl⟩:=h;simp
 ·rename_i h
  by_cases u:p=q
  ·have:(p<i↔p<i+1):=zd
   simp[u, <- this];omega
  ·simp[u]
theorem vt(n:Nat)(hn:n<=1000):aj prog 230 [.v (.int .i64 n)] (.aB 1 (mC (n+1) YW) (n+1)):=by
 have A:decide (0<2*(n+1)+1)=true:=b0;refine mD.to1 ?_
 (refine mD.enter func230 rfl zo zo rfl (by simp only[go_sem,aU,AV.wf,agA,afo,afu,Go.undef]) (by simp only[go_sem,aU,AV.wf,bz,agA,afo,afu,Go.undef]) ?_;simp only[ntmps230,results230,afa,aeq,Nat.reduceAdd,Nat.reduceSub,afU,afV,afK,afJ])
 (refine ae ?_;intro K hK K hK)
 refine ai.Dk hn ?_;simp only[aeq,afJ]
 (revert K;revert K;refine ae ?_;intro K hK)
 refine aO (ι:=Nat) 7 (λi=>[(4,.v (.int .i64 i))]) (λi=>cA 0 (n+1) (n+1) (wu i)) (λi=>n+1-i) (λi=>i<=n+1) 0 zd ?_ ?_
 ·have e0:(λ_ _=>false)=wu 0:=by funext p q;simp[wu]
  rw[e0];refine si ?_;simp only[go_sem,iV,true_or,or_true,true_and,and_true,A];exact .inr rfl
 ·intro i hi K hK;simp only[cA]
  (revert K;revert K;refine ae ?_;intro K hK K hK K hK)
  refine cn.part (λh=>?_) (λh=>?_)
  ·have u:i<n+1:=by replace h:=gH2 h;omega
   have eW:=ag (k:=i) (by replace h:=gH2 h;omega);have eO:=lI (k:=0) (N:=n+1) u;have O:∀x,(x::bA (n+1) (wu i) (n+1))[mV 0 i]? = _:=λx=>mO (k:=0) (x:=x) u;have eR:=dS (g:=wu i i) u;have eS:=λx=>pO (N:=n+1) (j:=i) (f:=wu i) (v:=true) (x:=x) u
   repeat(first|(with_reducible first|refine bG.up ?_|refineλ(K:AK)hK=>?_|(refine hK _ ?_;clear hK K))|simp only[go_sem,eW,eO,O,l6,eR,eS,LR]|with_reducible refine wA ?_|clear hK K)
   refine aw.mk (i+1) zd zd (si ?_);simp only[go_sem,iV,true_or,or_true,true_and,and_true,A]
  ·have U:i=n+1:=by replace h:=gH2 h;omega
   have eA:bA (n+1) (wu (n+1)) (n+1)=bA (n+1) YW (n+1):=gU λp q H _=>by simp[wu,YW,H]
   simp only[U]
   ((iterate 3 revert K);refine ae ?_)
   rw[eA];exact ti _ _
def WG(a b:GT)(i j:Nat):Bool:=decide (i<=j)&&(a i j||b i j)
def mB(a b:GT)(i j p q:Nat):Bool:=decide (p<i∨(p=i∧q<j))&&WG a b p q
theorem MI{a b:GT}{i j:Nat}(h:i<=j):oH (mB a b i j) i j (a i j||b i j)=mB a b i (j+1):=by
 funext p q
 rw[oH,mB,mB]
 split
 ·rename_i e;obtain⟨rfl,rfl⟩:=e;simp[WG,h]
 ·rename_i e
  congr 1
  rw[decide_eq_decide];omega
theorem Qf{a b:GT}{i:Nat}:mB a b i i=mB a b i 0:=by
 funext p q
 rw[mB,mB,agj];simp only[WG,ae6,decide_eq_true_eq]
 constructor
 ·rintro⟨H,A,u⟩;exact⟨zd,A,u⟩
 ·rintro⟨H,A,u⟩;exact⟨zd,A,u⟩
theorem MH{a b:GT}{N i:Nat}:bA N (mB a b i N) N=bA N (mB a b (i+1) 0) N:=gU λp q A u=>by
 rw[mB,mB];congr 1;rw[decide_eq_decide];omega
theorem rF(n:Nat)(a b:GT)(hn:n<=1000):aj prog 232 [.aB 1 (mC (n+1) a) (n+1),.aB 1 (mC (n+1) b) (n+1)] (.aB 1 (mC (n+1) (WG a b)) (n+1)):=by
 have H:decide (0<2*(n+1)+1)=true:=b0
 have eN:IntKind.i64.wrap (((n+1:Nat):Int)-1)=(n:Int):=by rw[bT zd zd];omega
 refine mD.to1 ?_
 (refine mD.enter func232 rfl zo zo rfl (by simp only[go_sem,aU,AV.wf,agA,afo,afu,Go.undef]) (by simp only[go_sem,aU,AV.wf,bz,agA,afo,afu,Go.undef]) ?_;simp only[ntmps232,results232,afa,aeq,Nat.reduceAdd,Nat.reduceSub,afU,afV,afK,afJ])
 (refine aM eN ?_;intro K hK K hK)
 refine ai.Dk hn ?_;simp only[aeq,afJ]
 (revert K;revert K;refine bj ?_;intro K hK)
 refine aO (ι:=Nat) 12 (λi=>[(6,.v (.int .i64 i)),(7,.undef)]) (λi=>cA 0 (n+1) (n+1) (mB a b i 0)) (λi=>n+1-i) (λi=>i<=n+1) 0 zd ?_ ?_
 ·have e0:(λ_ _=>false)=mB a b 0 0:=by funext p q;simp[mB]
  rw[e0];refine si ?_;simp only[go_sem,iV,true_or,or_true,true_and,and_true,H];exact .inr rfl
 ·intro i hi K hK;simp only[cA]
  (revert K;revert K;refine bj ?_;intro K hK K hK K hK)
  refine cn.part (λh=>?_) (λh=>?_)
  ·have u:i<n+1:=by replace h:=qs h;omega
   have eW:=ag (k:=i) zd;have eO:=lI (k:=0) (N:=n+1) u;have eA:=u6 (f:=a) u;have eB:=u6 (f:=b) u
   ((iterate 3 revert K);refine bj ?_;intro K hK K hK K hK)
   refine aO (ι:=Nat) 19 (λj=>[(7,.v (.int .i64 j))]) (λj=>cA 0 (n+1) (n+1) (mB a b i j)) (λj=>n+1-j) (λj=>i<=j∧j<=n+1) i zd ?_ ?_
   ·rw[Qf];refine si ?_;simp only[go_sem,iV,true_or,or_true,true_and,and_true,H]
   ·rintro j ⟨W,hj2⟩ K hK;simp only[cA]
    ((iterate 4 revert K);refine bj ?_;iterate 5 intro K hK)
    refine cn.part (λh=>?_) (λh=>?_)
    ·have A:j<n+1:=by replace h:=qs h;omega
     have eV:=ag (k:=j) zd;have U:=dS (g:=a i) A;have O:=dS (g:=b i) A;have hO:∀x,(x::bA (n+1) (mB a b i j) (n+1))[mV 0 i]? = _:=λx=>mO (k:=0) (x:=x) u;have eR:=dS (g:=mB a b i j i) A;have eS:=λx v=>pO (N:=n+1) (j:=j) (f:=mB a b i j) (v:=v) (x:=x) u;have eU:=MI (a:=a) (b:=b) W
     cases V:a i j
     ·rw[V,Bool.false_or]at eU
      repeat(first|(with_reducible first|refine bG.up ?_|refineλ(K:AK)hK=>?_|refine wE ?_|refine wK ?_|refine wF ?_|(refine hK _ ?_;clear hK K))|simp only[go_sem,eV,eO,eA,eB,U,O,V,hO,l6,eR,eS,eU,Go.undef]|with_reducible refine wA ?_|clear hK K)
      refine aw.mk (j+1) ⟨zd,zd⟩ zd (si ?_);simp only[go_sem,iV,true_or,or_true,true_and,and_true,H,gM,AV.wf]
     ·rw[V,Bool.true_or]at eU
      repeat(first|(with_reducible first|refine bG.up ?_|refineλ(K:AK)hK=>?_|refine wE ?_|refine wK ?_|refine wF ?_|(refine hK _ ?_;clear hK K))|simp only[go_sem,eV,eO,eA,eB,U,O,V,hO,l6,eR,eS,eU,Go.undef]|with_reducible refine wA ?_|clear hK K)
      refine aw.mk (j+1) ⟨zd,zd⟩ zd (si ?_);simp only[go_sem,iV,true_or,or_true,true_and,and_true,H,gM,AV.wf]
    ·have Y:j=n+1:=by replace h:=qs h;omega
     simp only[Y,MH]
     ((iterate 5 revert K);refine aM eW ?_)
     refine aw.mk (i+1) zd zd (si ?_);simp only[go_sem,iV,true_or,or_true,true_and,and_true,H,gM,AV.wf]
  ·have Y:i=n+1:=by replace h:=qs h;omega
   have eA:bA (n+1) (mB a b (n+1) 0) (n+1)=bA (n+1) (WG a b) (n+1):=gU λp q hp _=>by simp[mB,hp]
   simp only[Y]
   ((iterate 3 revert K);refine bj ?_)
   rw[eA];exact ti _ _
def BF(N:Nat)(a b:GT)(i j:Nat):Bool:=(List.range N).any λk=>decide (i<=k∧k<=j)&&(a i k&&b k j)
theorem Np{N:Nat}{a b:GT}{i j:Nat}:BF N a b i j=true ↔ ∃k,k<N∧i<=k∧k<=j∧a i k=true∧b k j=true:=by
 simp only[BF,List.any_eq_true,List.mem_range,ae6,decide_eq_true_eq,and_assoc]
def l7(N:Nat)(a b:GT)(i k j p q:Nat):Bool:=
 if p<i then BF N a b p q else if p=i then(List.range k).any (λk'=>decide (i<=k'∧k'<=q)&&(a i k'&&b k' q))||(decide (k<=q∧q<j)&&(a i k&&b k q))else false
theorem No{N:Nat}{a b:GT}{i k j:Nat}(h:k<=j)(H:a i k=true):oH (l7 N a b i k j) i j (l7 N a b i k j i j||b k j)=l7 N a b i k (j+1):=by
 funext p q
 rw[oH]
 split
 ·rename_i e;obtain⟨rfl,rfl⟩:=e;simp only[l7,if_neg (Nat.lt_irrefl _),if_true,H,afu];have A:decide (k<=q∧q<q)=false:=bi;have u:decide (k<=q∧q<q+1)=true:=b0;rw[A,u];simp
 ·rename_i e;simp only[l7]
  split
  ·rfl
  ·split
   ·rename_i A u;subst u
    congr 2
    rw[decide_eq_decide]
    have:q≠j:=λO=>e ⟨rfl,O⟩
    omega
   ·rfl
theorem Xk{N:Nat}{a b:GT}{i k:Nat}(hi:i<=k)(O:a i k=false∨True):bA N (l7 N a b i k (if a i k then N else k)) N=bA N (l7 N a b i (k+1) (k+1)) N:=gU λp q H A=>by
 simp only[l7]
 split
 ·rfl
 ·split
  ·rw[List.range_succ,List.any_append,Bool.or_assoc]
   congr 1
   have u:decide (k+1<=q∧q<k+1)=false:=bi;rw[u];simp only[List.any_cons,List.any_nil,Bool.or_false,Bool.false_and]
   cases U:a i k
   ·simp
   ·have:(k<=q∧q<N)=(i<=k∧k<=q):=by apply propext;omega
    simp[this]
  ·rfl
theorem Rv{N:Nat}{a b:GT}{i:Nat}:bA N (l7 N a b i N N) N=bA N (l7 N a b (i+1) (i+1) (i+1)) N:=gU λp q hp hq=>by
 simp only[l7]
 by_cases O:p<i
 ·rw[if_pos O,if_pos zd]
 ·rw[if_neg O]
  by_cases H:p=i
  ·subst H;rw[if_pos rfl,if_pos zd];have Y:decide (N<=q∧q<N)=false:=bi;rw[Y,Bool.false_and,Bool.or_false];rfl
  ·rw[if_neg H,if_neg zd]
   by_cases A:p=i+1
   ·rw[if_pos A]
    have W:(List.range (i+1)).any (λu=>decide (i+1<=u∧u<=q)&&(a (i+1) u&&b u q))=false:=by
     rw[List.any_eq_false];intro x hx
     have:=List.mem_range.1 hx
     have V:decide (i+1<=x∧x<=q)=false:=bi;rw[V];simp
    have U:decide (i+1<=q∧q<i+1)=false:=bi;rw[W,U];simp
   ·rw[if_neg A]
theorem Xj{N:Nat}{a b:GT}:(λ_ _=>false)=l7 N a b 0 0 0:=by
 funext p q
 simp[l7]
theorem rP(n:Nat)(a b:GT)(hn:n<=1000):aj prog 231 [.aB 1 (mC (n+1) a) (n+1),.aB 1 (mC (n+1) b) (n+1)] (.aB 1 (mC (n+1) (BF (n+1) a b)) (n+1)):=by
 have O:decide (0<2*(n+1)+1)=true:=b0
 have eN:IntKind.i64.wrap (((n+1:Nat):Int)-1)=(n:Int):=by rw[bT zd zd];omega
 refine mD.to1 ?_
 (refine mD.enter func231 rfl zo zo rfl (by simp only[go_sem,aU,AV.wf,agA,afo,afu,Go.undef]) (by simp only[go_sem,aU,AV.wf,bz,agA,afo,afu,Go.undef]) ?_;simp only[ntmps231,results231,afa,aeq,Nat.reduceAdd,Nat.reduceSub,afU,afV,afK,afJ])
 (refine aM eN ?_;intro K hK K hK)
 refine ai.Dk hn ?_;simp only[aeq,afJ]
 (revert K;revert K;refine bj ?_;intro K hK)
 refine aO (ι:=Nat) 13 (λi=>[(6,.v (.int .i64 i)),(7,.undef),(8,.undef)]) (λi=>cA 0 (n+1) (n+1) (l7 (n+1) a b i i i)) (λi=>n+1-i) (λi=>i<=n+1) 0 zd ?_ ?_
 ·rw[Xj (N:=n+1) (a:=a) (b:=b)];refine si ?_;simp only[go_sem,iV,true_or,or_true,true_and,and_true,O];exact .inr rfl
 ·intro i hi K hK;simp only[cA]
  (revert K;revert K;refine bj ?_;intro K hK K hK K hK)
  refine cn.part (λh=>?_) (λh=>?_)
  ·have A:i<n+1:=by replace h:=qs h;omega
   have eW:=ag (k:=i) zd;have eO:=lI (k:=0) (N:=n+1) A;have eA:=u6 (f:=a) A
   ((iterate 3 revert K);refine bj ?_;intro K hK K hK K hK)
   refine aO (ι:=Nat) 20 (λk=>[(7,.v (.int .i64 k)),(8,.undef)]) (λk=>cA 0 (n+1) (n+1) (l7 (n+1) a b i k k)) (λk=>n+1-k) (λk=>i<=k∧k<=n+1) i zd ?_ ?_
   ·refine si ?_;simp only[go_sem,iV,true_or,or_true,true_and,and_true,O]
   ·rintro k ⟨hk1,hk2⟩ K hK;simp only[cA]
    ((iterate 4 revert K);refine bj ?_;iterate 5 intro K hK)
    refine cn.part (λh=>?_) (λh=>?_)
    ·have V:k<n+1:=by replace h:=qs h;omega
     have eV:=ag (k:=k) zd;have H:=dS (g:=a i) V;have eB:=u6 (f:=b) V;have eK:=Xk (N:=n+1) (a:=a) (b:=b) hk1 (.inr trivial)
     ((iterate 5 revert K);refine bj ?_;iterate 5 intro K hK)
     refine aO (ι:=Nat) 27 (λj=>[(8,.v (.int .i64 j))]) (λj=>cA 0 (n+1) (n+1) (l7 (n+1) a b i k j)) (λj=>n+1-j) (λj=>k<=j∧j<=n+1∧(a i k=false->j=k)) k ⟨zd,zd,λ_=>rfl⟩ ?_ ?_
     ·refine si ?_;simp only[go_sem,iV,true_or,or_true,true_and,and_true,O]
     ·rintro j ⟨hj1,hj2,hj3⟩ K hK;simp only[cA]
      cases U:a i k
      ·have u:=hj3 U;rw[U]at eK;simp only[Bool.false_eq_true,if_false]at eK
       ((iterate 6 revert K);refine cw (nq eA H U) ?_)
       simp only[u,eK];refine aM eV ?_;refine aw.mk (k+1) ⟨zd,zd⟩ zd (si ?_);simp only[go_sem,iV,true_or,or_true,true_and,and_true,O,gM,AV.wf]
      ·rw[U]at eK;simp only[if_true]at eK
       rcases Bool.eq_false_or_eq_true (decide ((j:Int)<((n+1:Nat):Int)))with u|u
       ·have W:j<n+1:=by replace u:=qs u;omega
        have eJ:=ag (k:=j) zd;have Y:=dS (g:=b k) W;have hO:∀x,(x::bA (n+1) (l7 (n+1) a b i k j) (n+1))[mV 0 i]? = _:=λx=>mO (k:=0) (x:=x) A;have eR:=dS (g:=l7 (n+1) a b i k j i) W;have eS:=λx v=>pO (N:=n+1) (j:=j) (f:=l7 (n+1) a b i k j) (v:=v) (x:=x) A;have eU:=No (N:=n+1) (b:=b) hj1 U
        cases hv:l7 (n+1) a b i k j i j
        ·rw[hv,Bool.false_or]at eU
         repeat(first|(with_reducible first|refine bG.up ?_|refineλ(K:AK)hK=>?_|refine wE ?_|refine wK ?_|refine wF ?_|(refine hK _ ?_;clear hK K))|simp only[go_sem,eJ,eA,H,U,u,eO,eB,Y,hO,hv,l6,eR,eS,eU,Go.undef]|with_reducible refine wA ?_|clear hK K)
         refine aw.mk (j+1) ⟨zd,zd⟩ zd (si ?_);simp only[go_sem,iV,true_or,or_true,true_and,and_true,O,gM,AV.wf]
        ·rw[hv,Bool.true_or]at eU
         repeat(first|(with_reducible first|refine bG.up ?_|refineλ(K:AK)hK=>?_|refine wE ?_|refine wK ?_|refine wF ?_|(refine hK _ ?_;clear hK K))|simp only[go_sem,eJ,eA,H,U,u,eO,eB,Y,hO,hv,l6,eR,eS,eU,Go.undef]|with_reducible refine wA ?_|clear hK K)
         refine aw.mk (j+1) ⟨zd,zd⟩ zd (si ?_);simp only[go_sem,iV,true_or,or_true,true_and,and_true,O,gM,AV.wf]
       ·have hje:j=n+1:=by replace u:=qs u;omega
        ((iterate 6 revert K);refine cw (pG eA H U u) ?_)
        simp only[hje,eK];refine aM eV ?_;refine aw.mk (k+1) ⟨zd,zd⟩ zd (si ?_);simp only[go_sem,iV,true_or,or_true,true_and,and_true,O,gM,AV.wf]
    ·have e1:k=n+1:=by replace h:=qs h;omega
     simp only[e1,Rv]
     ((iterate 5 revert K);refine aM eW ?_)
     refine aw.mk (i+1) zd zd (si ?_);simp only[go_sem,iV,true_or,or_true,true_and,and_true,O,gM,AV.wf]
  ·have e1:i=n+1:=by replace h:=qs h;omega
   have eA:bA (n+1) (l7 (n+1) a b (n+1) (n+1) (n+1)) (n+1)=bA (n+1) (BF (n+1) a b) (n+1):=gU λp q hp _=>by simp[l7,hp]
   simp only[e1]
   ((iterate 3 revert K);refine bj ?_)
   rw[eA];exact ti _ _
open Classical in
noncomputable def jx(L:B0->Prop)(w:B0)(i j:Nat):Bool:=decide (Tk L w i j)
theorem fT{L:B0->Prop}{w:B0}{i j:Nat}:jx L w i j=true↔Tk L w i j:=by simp[jx]
theorem jQ{L M:B0->Prop}{w:B0}(h:∀u,u.length<=w.length->(L u↔M u)):jx L w=jx M w:=by
 funext i j
 rw[agj,fT,fT]
 have:∀(q:j<=w.length),(GO w i j).length<=w.length:=λq=>by grind[sF]
 constructor
 ·rintro⟨H,q,A⟩;exact⟨H,q,(h _ (this q)).1 A⟩
 ·rintro⟨H,q,A⟩;exact⟨H,q,(h _ (this q)).2 A⟩
theorem yM{N:Nat}{f g:GT}(h:∀i j,i<N->j<N->(f i j=true↔g i j=true)):mC N f=mC N g:=Wu λi j hi q=>agj.2 (h i j hi q)
theorem T7(w:B0):mC (w.length+1) (λ_ _=>false)=mC (w.length+1) (jx (λ_=>False) w):=yM λi j hi q=>by
 grind[fT,Tk]
theorem yN(w:B0):mC (w.length+1) YW=mC (w.length+1) (jx (λu=>u=[]) w):=yM λi j hi q=>by
 rw[fT,YW,decide_eq_true_eq]
 constructor
 ·rintro rfl;exact⟨Nat.le_refl _,zd,Oz _ _⟩
 ·rintro⟨O,H,A⟩
  grind[sF]
theorem P8(L M:B0->Prop)(w:B0):mC (w.length+1) (WG (jx L w) (jx M w))=mC (w.length+1) (jx (λu=>L u∨M u) w):=yM λi j hi O=>by
 rw[fT,WG,ae6,Bool.or_eq_true,decide_eq_true_eq,fT,fT]
 constructor
 ·rintro⟨A,⟨_,H,q⟩|⟨_,H,q⟩⟩
  ·exact⟨A,H,.inl q⟩
  ·exact⟨A,H,.inr q⟩
 ·rintro⟨A,H,q|q⟩
  ·exact⟨A,.inl ⟨A,H,q⟩⟩
  ·exact⟨A,.inr ⟨A,H,q⟩⟩
theorem Di(L M:B0->Prop)(w:B0):mC (w.length+1) (BF (w.length+1) (jx L w) (jx M w))=mC (w.length+1) (jx (λu=>∃a b,u=a++b∧L a∧M b) w):=yM λi j hi hj=>by
 rw[fT,Np]
 constructor
 ·rintro⟨k,_,U,q,O,H⟩;obtain⟨_,_,A⟩:=fT.1 O;obtain⟨_,h6,Y⟩:=fT.1 H;exact⟨zd,h6,_,_,(J0 U q).symm,A,Y⟩
 ·rintro⟨U,q,a,b,O,H,A⟩;obtain⟨k,W,V,rfl,rfl⟩:=Oy U q O;exact⟨k,zd,W,V,fT.2 ⟨W,zd,H⟩,fT.2 ⟨V,q,A⟩⟩
def ff(L:B0->Prop):Nat->B0->Prop
 |0,u=>u=[]
 |k+1,u=>u=[]∨∃a b,u=a++b∧L a∧ff L k b
theorem ff.nil{L:B0->Prop}:∀k,ff L k []
 |0=>rfl
 |k+1=> .inl rfl
theorem ff.one{L:B0->Prop}{u:B0}:ff L 1 u↔(u=[]∨L u):=by
 simp only[ff]
 grind
theorem ff.mono{L:B0->Prop}:∀{k m:Nat}{u:B0},k<=m->ff L k u->ff L m u
 |0,m,u,_,h=>by grind[ff,nil]
 |k+1,0,u,q,_=>zd
 |k+1,m+1,u,q,h=>by
  rw[ff]at h⊢
  rcases h with h|⟨a,b,e,H,A⟩
  ·exact .inl h
  ·exact .inr ⟨a,b,e,H,ff.mono zd A⟩
theorem ff.add{L:B0->Prop}:∀{k m:Nat}{u:B0},ff L (k+m) u ↔ ∃a b,u=a++b∧ff L k a∧ff L m b
 |0,m,u=>by
  rw[Nat.zero_add]
  constructor
  ·intro h;exact⟨[],u,rfl,rfl,h⟩
  ·rintro⟨a,b,rfl,A,q⟩
   grind[ff]
 |k+1,m,u=>by
  rw[show k+1+m=(k+m)+1 by omega]
  constructor
  ·intro h;rw[ff]at h
   rcases h with rfl|⟨a,b,rfl,A,q⟩
   ·exact⟨[],[],rfl,.nil _,.nil _⟩
   ·obtain⟨c,d,rfl,O,H⟩:=ff.add.1 q;exact⟨a++c,d,zk,.inr ⟨a,c,rfl,A,O⟩,H⟩
  ·rintro⟨a,b,rfl,A,q⟩;rw[ff]at A
   rcases A with rfl|⟨c,d,rfl,O,H⟩
   ·exact ff.mono zd q
   ·rw[ff];exact .inr ⟨c,d++b,zk,O,ff.add.2 ⟨d,b,rfl,H,q⟩⟩
theorem ff.star{L:B0->Prop}:∀{k:Nat}{u:B0},ff L k u->dU L u
 |0,u,h=>by rw[ff]at h;subst h;exact .nil
 |k+1,u,h=>by
  rw[ff]at h
  rcases h with rfl|⟨a,b,rfl,A,q⟩
  ·exact .nil
  ·exact(dU.one A).append q.star
theorem dU.pow{L:B0->Prop}{u:B0}(h:dU L u):ff L u.length u:=by
 induction h with
 |nil=>rfl
 |cons a b A q _ ih=>
  rw[List.length_append]
  have:0<a.length:=List.length_pos_iff.2 A
  exact ff.mono (k:=b.length+1) zd (.inr ⟨a,b,rfl,q,ih⟩)
theorem Qw{L:B0->Prop}{k:Nat}{u:B0}(h:u.length<=k):ff L k u↔dU L u:=⟨ff.star,λq=>ff.mono h q.pow⟩
theorem G8{l:IO}{x:Ex}{u:B0}:jW (l++[x]) u↔jW l u∨Lg x u:=by
 grind[uo,List.mem_singleton,List.mem_append_left,List.mem_append_right]
theorem G9{l:IO}{x:Ex}{u:B0}:dO (l++[x]) u ↔ ∃a b,u=a++b∧dO l a∧Lg x b:=by
 rw[uq]
 constructor
 ·rintro⟨a,b,rfl,h,k⟩;rw[dO]at k;obtain⟨c,d,rfl,A,q⟩:=k
  grind[dO]
 ·rintro⟨a,b,rfl,h,k⟩;refine⟨a,b,rfl,h,?_⟩;rw[dO];exact⟨b,[],zk,k,by rw[dO]⟩
def kD(w:B0)(s:ByteArray)(m i j:Nat):Bool:=decide (j=i+1∧i<m)&&((w.getD i ⟨#[]⟩).toList==s.toList)
theorem PJ(w:B0)(s:ByteArray):(λ_ _=>false)=kD w s 0:=by grind[kD]
theorem Ft(w:B0)(s:ByteArray)(m:Nat):oH (kD w s m) m (m+1) ((w.getD m ⟨#[]⟩).toList==s.toList)=kD w s (m+1):=by
 funext p q
 rw[oH,kD,kD]
 grind
theorem Wv(w:B0)(s:ByteArray):mC (w.length+1) (kD w s w.length)=mC (w.length+1) (jx (λu=>u=[s]) w):=yM λi j hi H=>by
 rw[fT,kD,ae6,decide_eq_true_eq,beq_iff_eq]
 constructor
 ·rintro⟨⟨rfl,A⟩,U⟩;refine⟨zd,zd,?_⟩;have q:w.getD i ⟨#[]⟩=s:=toList_inj.1 (by grind);rw[GO,show i+1-i=1 by omega,af7 A,List.take_succ_cons,List.take_zero, <- q,List.getD_eq_getElem?_getD,List.getElem?_eq_getElem A];rfl
 ·rintro⟨A,U,q⟩;have O:=sF (i:=i) U;rw[q]at O;simp at O
  have H:j=i+1:=zd
  subst H
  have V:i<w.length:=zd
  rw[GO,show i+1-i=1 by omega,af7 V,List.take_succ_cons,List.take_zero]at q
  grind
def cZ(x:Ex):Bool:=(aq x).all Ex.part
theorem Ce(k:Int)(s:ByteArray)(l:IO):cZ (.mk k s l)=(bO k s l.length&&l.all cZ):=by
 unfold cZ;rw[aq,bN,List.all_cons,List.all_flatMap];rfl
theorem Qm(x:Ex):(∀z,z∈aq x->z.kids.length<=1000000∧z.label.size<=1000000000000000)->aj prog 137 [.agg (aN x)] (.v (.bool (cZ x))):=by
 induction x using Ex.ind with
 |h k s l ih=>
  intro hz;have hs:l.length<=1000000∧s.size<=1000000000000000:=hz (.mk k s l) (by rw[aq];exact List.mem_cons_self);have hsub:∀y,y∈l->aj prog 137 [.agg (aN y)] (.v (.bool (cZ y))):=λy hy=>ih y hy (λz hz'=>hz z (by rw[aq,bN];exact List.mem_cons_of_mem _ (List.mem_flatMap.2 ⟨_,hy,hz'⟩)));have F:=yk s hs.2;rw[aA,Ce];simp only[Ex.kind,Ex.label,Ex.kids];refine gE func137 ntmps137 results137 ?_
  (refine ae ?_;intro K hK)
  rcases(by by_cases a1:k=1<;>by_cases a2:k=2<;>by_cases a3:k=3<;>by_cases a4:k=4<;>by_cases a5:k=5<;>by_cases a6:k=6<;>simp_all:k=1∨k=2∨k=3∨k=4∨k=5∨k=6∨(k≠1∧k≠2∧k≠3∧k≠4∧k≠5∧k≠6))with hk|hk|hk|hk|hk|hk|hk
  ·have O:(k==1)=true:=by rw[beq_iff_eq];omega
   have V:(k==2)=false:=by rw[<-ae1,beq_iff_eq];omega
   have U:(k==3)=false:=by rw[<-ae1,beq_iff_eq];omega
   have e4:(k==4)=false:=by rw[<-ae1,beq_iff_eq];omega
   have Y:(k==5)=false:=by rw[<-ae1,beq_iff_eq];omega
   have W:(k==6)=false:=by rw[<-ae1,beq_iff_eq];omega
   (revert K;refine ak (oT O V U e4 Y W) ?_;intro K hK K hK K hK)
   ((iterate 3 revert K);refine dA F (oT O V U e4 Y W) ?_;intro K hK K hK K hK)
   cases hf:cB s with
   |false=>
    ((iterate 3 revert K);refine dj hf ?_)
    rw[bO];simp only[O,if_true,hf,afW,afL]
   |true=>
    ((iterate 3 revert K);refine ak hf ?_)
    rcases Nat.eq_zero_or_pos l.length with q|q
    ·have e:l=[]:=List.eq_nil_of_length_eq_zero q;rw[e,bO];simp[O,hf]
    ·have a:((l.length:Int)==0)=false:=by rw[<-ae1,beq_iff_eq];omega
     have b:decide (l.length=0)=false:=bi;rw[a,bO];simp only[O,if_true,b,afL]
  ·have O:(k==1)=false:=by rw[<-ae1,beq_iff_eq];omega
   have V:(k==2)=true:=by rw[beq_iff_eq];omega
   have U:(k==3)=false:=by rw[<-ae1,beq_iff_eq];omega
   have e4:(k==4)=false:=by rw[<-ae1,beq_iff_eq];omega
   have Y:(k==5)=false:=by rw[<-ae1,beq_iff_eq];omega
   have W:(k==6)=false:=by rw[<-ae1,beq_iff_eq];omega
   (revert K;refine ak (oT O V U e4 Y W) ?_;intro K hK)
   refine cn.part (λA=>?_) (λA=>?_)
   ·have hl:l.length<2:=by replace A:=cq A;omega
    (revert K;refine ak A ?_)
    have hd:decide (1<l.length)=false:=bi;rw[bO];simp[O,V,U,hd]
   ·have hl:1<l.length:=by replace A:=cq A;omega
    (revert K;refine ak A ?_;intro K hK)
    refine b6 (ι:=Nat) (λi=>[(1,.ptr 0 0 3 0 0),(2,.v (.bool false)),(3,.v (.int .i64 i))]) (λ_=>[some ⟨25,3,false,[[.v (.int .i64 k),.v (.string s),.aB 3 (l.map aN) l.length]]⟩]) (λi=>l.length-i) (λi=>i<=l.length∧∀j(h:j<l.length),j<i->cZ l[j]=true) 0 ⟨zd,λj _ h=>absurd h zd⟩ ?_ ?_
    ·refine ab (bJ ?_) ar ar
     rfl
    ·rintro i ⟨hi,hP⟩ K hK;simp only[bP,afO,afP,afU,afV,go_sem]
     (revert K;revert K;refine ae ?_;intro K hK K hK K hK)
     refine cn.part (λh=>?_) (λh=>?_)
     ·have u:i<l.length:=by replace h:=cq h;omega
      have eW:=ag (k:=i) zd;have eG:=getD_map aN l i [] u;have C:=hsub l[i] (afy u);simp only[aA]at C eG
      ((iterate 3 revert K);refine ak eG ?_;iterate 5 intro K hK)
      ((iterate 5 revert K);refine dA C eG ?_;intro K hK K hK K hK)
      refine cn.part (λH=>?_) (λH=>?_)
      ·((iterate 3 revert K);refine ak eW ?_)
       exact aw.mk (i+1) ⟨zd,λj hj h3=>(by
        rcases aes j i with r|r
        ·exact hP j hj r
        ·have e:j=i:=zd
         subst e
         exact H)⟩ zd (by exact ab ar ar ar)
      ·((iterate 3 revert K);refine ak H ?_)
       have e:l.all cZ=false:=by
        rw[<-ae1,afh];intro hh;rw[hh _ (afy u)]at H;cases H
       rw[e,afW]
     ·have he:i=l.length:=by replace h:=cq h;omega
      have e:l.all cZ=true:=afh.2 (λy hy=>by
       obtain⟨j,hj,rfl⟩:=agn hy
       exact hP j hj zd)
      ((iterate 3 revert K);refine ae ?_)
      rw[e,u7,afo,bO];simp only[O,V,U,e4,Y,W];have hd:decide (1<l.length)=true:=b0;simp[hd]
  ·have O:(k==1)=false:=by rw[<-ae1,beq_iff_eq];omega
   have V:(k==2)=false:=by rw[<-ae1,beq_iff_eq];omega
   have U:(k==3)=true:=by rw[beq_iff_eq];omega
   have e4:(k==4)=false:=by rw[<-ae1,beq_iff_eq];omega
   have Y:(k==5)=false:=by rw[<-ae1,beq_iff_eq];omega
   have W:(k==6)=false:=by rw[<-ae1,beq_iff_eq];omega
   (revert K;refine ak (oT O V U e4 Y W) ?_;intro K hK)
   refine cn.part (λA=>?_) (λA=>?_)
   ·have hl:l.length<2:=by replace A:=cq A;omega
    (revert K;refine ak A ?_)
    have hd:decide (1<l.length)=false:=bi;rw[bO];simp[O,V,U,hd]
   ·have hl:1<l.length:=by replace A:=cq A;omega
    (revert K;refine ak A ?_;intro K hK)
    refine b6 (ι:=Nat) (λi=>[(1,.ptr 0 0 3 0 0),(2,.v (.bool false)),(3,.v (.int .i64 i))]) (λ_=>[some ⟨25,3,false,[[.v (.int .i64 k),.v (.string s),.aB 3 (l.map aN) l.length]]⟩]) (λi=>l.length-i) (λi=>i<=l.length∧∀j(h:j<l.length),j<i->cZ l[j]=true) 0 ⟨zd,λj _ h=>absurd h zd⟩ ?_ ?_
    ·refine ab (bJ ?_) ar ar
     rfl
    ·rintro i ⟨hi,hP⟩ K hK;simp only[bP,afO,afP,afU,afV,go_sem]
     (revert K;revert K;refine ae ?_;intro K hK K hK K hK)
     refine cn.part (λh=>?_) (λh=>?_)
     ·have u:i<l.length:=by replace h:=cq h;omega
      have eW:=ag (k:=i) zd;have eG:=getD_map aN l i [] u;have C:=hsub l[i] (afy u);simp only[aA]at C eG
      ((iterate 3 revert K);refine ak eG ?_;iterate 5 intro K hK)
      ((iterate 5 revert K);refine dA C eG ?_;intro K hK K hK K hK)
      refine cn.part (λH=>?_) (λH=>?_)
      ·((iterate 3 revert K);refine ak eW ?_)
       exact aw.mk (i+1) ⟨zd,λj hj h3=>(by
        rcases aes j i with r|r
        ·exact hP j hj r
        ·have e:j=i:=zd
         subst e
         exact H)⟩ zd (by exact ab ar ar ar)
      ·((iterate 3 revert K);refine ak H ?_)
       have e:l.all cZ=false:=by
        rw[<-ae1,afh];intro hh;rw[hh _ (afy u)]at H;cases H
       rw[e,afW]
     ·have he:i=l.length:=by replace h:=cq h;omega
      have e:l.all cZ=true:=afh.2 (λy hy=>by
       obtain⟨j,hj,rfl⟩:=agn hy
       exact hP j hj zd)
      ((iterate 3 revert K);refine ae ?_)
      rw[e,u7,afo,bO];simp only[O,V,U,e4,Y,W];have hd:decide (1<l.length)=true:=b0;simp[hd]
  ·have O:(k==1)=false:=by rw[<-ae1,beq_iff_eq];omega
   have V:(k==2)=false:=by rw[<-ae1,beq_iff_eq];omega
   have U:(k==3)=false:=by rw[<-ae1,beq_iff_eq];omega
   have e4:(k==4)=true:=by rw[beq_iff_eq];omega
   have Y:(k==5)=false:=by rw[<-ae1,beq_iff_eq];omega
   have W:(k==6)=false:=by rw[<-ae1,beq_iff_eq];omega
   (revert K;refine ak (oT O V U e4 Y W) ?_;intro K hK)
   refine cn.part (λA=>?_) (λA=>?_)
   ·have hl:l.length≠1:=by replace A:=cq A;omega
    (revert K;refine ak A ?_)
    have hd:decide (l.length=1)=false:=decide_eq_false hl;rw[bO];simp[O,V,U,e4,Y,W,hd]
   ·have hl:l.length=1:=by replace A:=cq A;omega
    (revert K;refine ak A ?_;intro K hK)
    refine b6 (ι:=Nat) (λi=>[(1,.ptr 0 0 3 0 0),(2,.v (.bool false)),(3,.v (.int .i64 i))]) (λ_=>[some ⟨25,3,false,[[.v (.int .i64 k),.v (.string s),.aB 3 (l.map aN) l.length]]⟩]) (λi=>l.length-i) (λi=>i<=l.length∧∀j(h:j<l.length),j<i->cZ l[j]=true) 0 ⟨zd,λj _ h=>absurd h zd⟩ ?_ ?_
    ·refine ab (bJ ?_) ar ar
     rfl
    ·rintro i ⟨hi,hP⟩ K hK;simp only[bP,afO,afP,afU,afV,go_sem]
     (revert K;revert K;refine ae ?_;intro K hK K hK K hK)
     refine cn.part (λh=>?_) (λh=>?_)
     ·have u:i<l.length:=by replace h:=cq h;omega
      have eW:=ag (k:=i) zd;have eG:=getD_map aN l i [] u;have C:=hsub l[i] (afy u);simp only[aA]at C eG
      ((iterate 3 revert K);refine ak eG ?_;iterate 5 intro K hK)
      ((iterate 5 revert K);refine dA C eG ?_;intro K hK K hK K hK)
      refine cn.part (λH=>?_) (λH=>?_)
      ·((iterate 3 revert K);refine ak eW ?_)
       exact aw.mk (i+1) ⟨zd,λj hj h3=>(by
        rcases aes j i with r|r
        ·exact hP j hj r
        ·have e:j=i:=zd
         subst e
         exact H)⟩ zd (by exact ab ar ar ar)
      ·((iterate 3 revert K);refine ak H ?_)
       have e:l.all cZ=false:=by
        rw[<-ae1,afh];intro hh;rw[hh _ (afy u)]at H;cases H
       rw[e,afW]
     ·have he:i=l.length:=by replace h:=cq h;omega
      have e:l.all cZ=true:=afh.2 (λy hy=>by
       obtain⟨j,hj,rfl⟩:=agn hy
       exact hP j hj zd)
      ((iterate 3 revert K);refine ae ?_)
      rw[e,u7,afo,bO];simp only[O,V,U,e4,Y,W];have hd:decide (l.length=1)=true:=b0;simp[hd]
  ·have O:(k==1)=false:=by rw[<-ae1,beq_iff_eq];omega
   have V:(k==2)=false:=by rw[<-ae1,beq_iff_eq];omega
   have U:(k==3)=false:=by rw[<-ae1,beq_iff_eq];omega
   have e4:(k==4)=false:=by rw[<-ae1,beq_iff_eq];omega
   have Y:(k==5)=true:=by rw[beq_iff_eq];omega
   have W:(k==6)=false:=by rw[<-ae1,beq_iff_eq];omega
   (revert K;refine ak (oT O V U e4 Y W) ?_;intro K hK)
   refine cn.part (λA=>?_) (λA=>?_)
   ·have hl:l.length≠1:=by replace A:=cq A;omega
    (revert K;refine ak A ?_)
    have hd:decide (l.length=1)=false:=decide_eq_false hl;rw[bO];simp[O,V,U,e4,Y,W,hd]
   ·have hl:l.length=1:=by replace A:=cq A;omega
    (revert K;refine ak A ?_;intro K hK)
    refine b6 (ι:=Nat) (λi=>[(1,.ptr 0 0 3 0 0),(2,.v (.bool false)),(3,.v (.int .i64 i))]) (λ_=>[some ⟨25,3,false,[[.v (.int .i64 k),.v (.string s),.aB 3 (l.map aN) l.length]]⟩]) (λi=>l.length-i) (λi=>i<=l.length∧∀j(h:j<l.length),j<i->cZ l[j]=true) 0 ⟨zd,λj _ h=>absurd h zd⟩ ?_ ?_
    ·refine ab (bJ ?_) ar ar
     rfl
    ·rintro i ⟨hi,hP⟩ K hK;simp only[bP,afO,afP,afU,afV,go_sem]
     (revert K;revert K;refine ae ?_;intro K hK K hK K hK)
     refine cn.part (λh=>?_) (λh=>?_)
     ·have u:i<l.length:=by replace h:=cq h;omega
      have eW:=ag (k:=i) zd;have eG:=getD_map aN l i [] u;have C:=hsub l[i] (afy u);simp only[aA]at C eG
      ((iterate 3 revert K);refine ak eG ?_;iterate 5 intro K hK)
      ((iterate 5 revert K);refine dA C eG ?_;intro K hK K hK K hK)
      refine cn.part (λH=>?_) (λH=>?_)
      ·((iterate 3 revert K);refine ak eW ?_)
       exact aw.mk (i+1) ⟨zd,λj hj h3=>(by
        rcases aes j i with r|r
        ·exact hP j hj r
        ·have e:j=i:=zd
         subst e
         exact H)⟩ zd (by exact ab ar ar ar)
      ·((iterate 3 revert K);refine ak H ?_)
       have e:l.all cZ=false:=by
        rw[<-ae1,afh];intro hh;rw[hh _ (afy u)]at H;cases H
       rw[e,afW]
     ·have he:i=l.length:=by replace h:=cq h;omega
      have e:l.all cZ=true:=afh.2 (λy hy=>by
       obtain⟨j,hj,rfl⟩:=agn hy
       exact hP j hj zd)
      ((iterate 3 revert K);refine ae ?_)
      rw[e,u7,afo,bO];simp only[O,V,U,e4,Y,W];have hd:decide (l.length=1)=true:=b0;simp[hd]
  ·have O:(k==1)=false:=by rw[<-ae1,beq_iff_eq];omega
   have V:(k==2)=false:=by rw[<-ae1,beq_iff_eq];omega
   have U:(k==3)=false:=by rw[<-ae1,beq_iff_eq];omega
   have e4:(k==4)=false:=by rw[<-ae1,beq_iff_eq];omega
   have Y:(k==5)=false:=by rw[<-ae1,beq_iff_eq];omega
   have W:(k==6)=true:=by rw[beq_iff_eq];omega
   (revert K;refine ak (oT O V U e4 Y W) ?_;intro K hK)
   refine cn.part (λA=>?_) (λA=>?_)
   ·have hl:l.length≠1:=by replace A:=cq A;omega
    (revert K;refine ak A ?_)
    have hd:decide (l.length=1)=false:=decide_eq_false hl;rw[bO];simp[O,V,U,e4,Y,W,hd]
   ·have hl:l.length=1:=by replace A:=cq A;omega
    (revert K;refine ak A ?_;intro K hK)
    refine b6 (ι:=Nat) (λi=>[(1,.ptr 0 0 3 0 0),(2,.v (.bool false)),(3,.v (.int .i64 i))]) (λ_=>[some ⟨25,3,false,[[.v (.int .i64 k),.v (.string s),.aB 3 (l.map aN) l.length]]⟩]) (λi=>l.length-i) (λi=>i<=l.length∧∀j(h:j<l.length),j<i->cZ l[j]=true) 0 ⟨zd,λj _ h=>absurd h zd⟩ ?_ ?_
    ·refine ab (bJ ?_) ar ar
     rfl
    ·rintro i ⟨hi,hP⟩ K hK;simp only[bP,afO,afP,afU,afV,go_sem]
     (revert K;revert K;refine ae ?_;intro K hK K hK K hK)
     refine cn.part (λh=>?_) (λh=>?_)
     ·have u:i<l.length:=by replace h:=cq h;omega
      have eW:=ag (k:=i) zd;have eG:=getD_map aN l i [] u;have C:=hsub l[i] (afy u);simp only[aA]at C eG
      ((iterate 3 revert K);refine ak eG ?_;iterate 5 intro K hK)
      ((iterate 5 revert K);refine dA C eG ?_;intro K hK K hK K hK)
      refine cn.part (λH=>?_) (λH=>?_)
      ·((iterate 3 revert K);refine ak eW ?_)
       exact aw.mk (i+1) ⟨zd,λj hj h3=>(by
        rcases aes j i with r|r
        ·exact hP j hj r
        ·have e:j=i:=zd
         subst e
         exact H)⟩ zd (by exact ab ar ar ar)
      ·((iterate 3 revert K);refine ak H ?_)
       have e:l.all cZ=false:=by
        rw[<-ae1,afh];intro hh;rw[hh _ (afy u)]at H;cases H
       rw[e,afW]
     ·have he:i=l.length:=by replace h:=cq h;omega
      have e:l.all cZ=true:=afh.2 (λy hy=>by
       obtain⟨j,hj,rfl⟩:=agn hy
       exact hP j hj zd)
      ((iterate 3 revert K);refine ae ?_)
      rw[e,u7,afo,bO];simp only[O,V,U,e4,Y,W];have hd:decide (l.length=1)=true:=b0;simp[hd]
  ·have O:(k==1)=false:=by rw[<-ae1,beq_iff_eq];omega
   have V:(k==2)=false:=by rw[<-ae1,beq_iff_eq];omega
   have U:(k==3)=false:=by rw[<-ae1,beq_iff_eq];omega
   have e4:(k==4)=false:=by rw[<-ae1,beq_iff_eq];omega
   have Y:(k==5)=false:=by rw[<-ae1,beq_iff_eq];omega
   have W:(k==6)=false:=by rw[<-ae1,beq_iff_eq];omega
   (revert K;refine ak (oT O V U e4 Y W) ?_)
   rw[bO];simp[O,V,U,e4,Y,W]
theorem qE(x:Ex)(A:(aq x).length<=1000000)(u:∀z,z∈aq x->z.kids.length<=1000000∧z.label.size<=1000000000000000):aj prog 101 [.agg (aN x)] (.v (.bool (aD x))):=by
 have S:=Ra x A;have T:=Qm x u;have e:aD x=(decide ((aq x).length<=24)&&cZ x):=rfl;rw[e];simp only[aA]at S T⊢;refine gE func101 ntmps101 results101 ?_
 (refine ae ?_;intro K hK K hK)
 (revert K;revert K;refine aK S ?_;intro K hK K hK)
 refine cn.part (λh=>?_) (λh=>?_)
 ·(revert K;revert K;refine ak h ?_;intro K hK K hK)
  (revert K;revert K;refine dA T h ?_)
  have q:decide ((aq x).length<=24)=true:=by(try simp only[decide_eq_true_eq,decide_eq_false_iff_not]at h);exact b0
  rw[q,Bool.true_and]
 ·(revert K;revert K;refine dj h ?_)
  have q:decide ((aq x).length<=24)=false:=by(try simp only[decide_eq_true_eq,decide_eq_false_iff_not]at h);exact bi
  rw[q,afL]
end Go.Proofs.YtlhhccmopfamhaaGreatDoor
