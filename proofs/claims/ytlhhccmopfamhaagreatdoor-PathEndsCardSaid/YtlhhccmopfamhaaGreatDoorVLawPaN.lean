/- 'kinescopelaw15.PathEnds': for every input the call returns true and all read behind it as before. Three tables (two of math/bits, one of internal/strconv) are laid, and tied to the program's text. No condition beyond the row's own: the reading ends, and no text or slice that came in is longer than the form's reach. -/
import Derived.Test.YtlhhccmopfamhaaGreatDoorVLent
import Derived.Test.YtlhhccmopfamhaaGreatDoorVSets09
import Derived.Test.YtlhhccmopfamhaaGreatDoorVRef08
import Derived.Test.YtlhhccmopfamhaaGreatDoorVRefR
import Derived.Sort.Walk0
import Derived.Test.YtlhhccmopfamhaaGreatDoorVDfaQ
import Derived.Test.YtlhhccmopfamhaaGreatDoorVMat
import Derived.Test.YtlhhccmopfamhaaGreatDoorVPairsW
import Derived.Test.YtlhhccmopfamhaaGreatDoorVAbsV
import Derived.WalkKit
import Derived.ProofKit
import Derived.OpenShut
import Derived.Stop.Joined
set_option linter.unusedSimpArgs false
set_option linter.unusedVariables false
set_option maxRecDepth 100000
set_option maxHeartbeats 16000000
open Bool renaming and_self -> agp, and_true -> afe, true_and -> afi, not_true -> ahm
open List renaming getD_eq_getElem?_getD -> aeS, getElem?_map -> aeu, getElem?_eq_getElem -> aes, length_map -> agv, getElem_map -> agh, length_cons -> ae0, length_nil -> aeg, replicate_succ -> afJ, length_append -> aem, length_singleton -> agz, map_append -> agN, take_succ_eq_append_getElem -> agD, mem_append_left -> afX, map_nil -> agt, set_cons_zero -> afH, set_cons_succ -> afG, mem_singleton -> af3, getElem_mem -> afm, getElem?_eq_none -> ahh, cons_append -> afz, nil_append -> afy, take_length -> agE, length_take -> ahi, replicate_zero -> afK, getElem?_eq_some_iff -> aek, append_nil -> agn, map_cons -> afZ, length_filterMap_le -> ahl, foldl_cons -> afD, foldl_nil -> afE, getElem?_cons_zero -> afr, getElem?_append_left -> aej, getElem?_append_right -> aeA, mem_cons -> afO, not_mem_nil -> af1
open Nat renaming zero_le -> aen, lt_add_one -> agq, zero_lt_one -> agr, zero_lt_succ -> agT, lt_or_ge -> aei, mul_le_mul_right -> aeo, lt_or_eq_of_le -> ahk
open Option renaming toList_some -> ahj, map_some -> aeE, map_none -> ag7
namespace Go.Proofs.YtlhhccmopfamhaaGreatDoor
open Go.RowKit
open Go.Proofs.Tryz
def sb(A:o8):C5:=[bZ A.labs,.aA 1 (fq (A.rows.map (iU A.labs))) A.rows.length,.aA 1 (dF A.ends) A.rows.length]
theorem xu(n:Nat)(A:o8):aQ n (sb A)=true:=by simp only[sb,bZ,aQ,AV.wf,oT,qg,bz,agp]
theorem O6(l:N2){i:Nat}(h:i<l.length):(dF l).getD i []=[.v (.bool (l.getD i false))]:=by
 rw[dF,aeS,aeu,aes h,aeS,aes h];rfl
theorem Q4{A:o8}(u:A.ends.length=A.rows.length)(s:Int):aj prog 37 [.vp (sb A),.v (.int .i64 s)] (.v (.bool (bM A s))):=by
 simp only[sb,bZ]
 by_cases q:0<=s
 ·obtain⟨k,rfl⟩:∃k:Nat,s=k:=⟨s.toNat,zd⟩;have d0:decide ((0:Int)<=(k:Int))=true:=decide_eq_true q
  by_cases H:k<A.rows.length
  ·have d1:decide ((k:Int)<(A.rows.length:Int))=true:=b0;have eG:=O6 A.ends (i:=k) zd
   have eL:(dF A.ends).length=A.rows.length:=by rw[jG,u]
   have e:bM A k=A.ends.getD k false:=by rw[bM,d0,d1];rfl
   rw[e];refine gE func37 ntmps37 results37 ?_;exact Ff (pt d0 d1 eG eL)
  ·have d1:decide ((k:Int)<(A.rows.length:Int))=false:=bi
   have e:bM A k=false:=by rw[bM,d0,d1];rfl
   rw[e];refine gE func37 ntmps37 results37 ?_;exact Ff (q9 d0 d1)
 ·have d0:decide ((0:Int)<=s)=false:=decide_eq_false q
  have e:bM A s=false:=by rw[bM,d0];rfl
  rw[e];refine gE func37 ntmps37 results37 ?_;exact Ff d0
theorem UJ{A:o8}(LO:LOk A)(s:Int)(l:ByteArray):aj prog 70 [.vp (sb A),.v (.int .i64 s),.v (.string l)] (stepT (jr A s l)):=by
 have hfew:=LO.few;have hmax:=LO.max;have W:=R6 (jr A s l);simp only[sb,bZ]
 by_cases hv:0<=s∧s<A.rows.length
 ·obtain⟨n,rfl⟩:∃n:Nat,s=n:=⟨s.toNat,zd⟩
  have hn:n<A.rows.length:=zd
  have d0:decide ((0:Int)<=(n:Int))=true:=b0;have d1:decide ((n:Int)<(A.rows.length:Int))=true:=b0
  have eX:jr A n l=look (A.rows.getD n []) l:=by rw[jr,if_pos hv,Int.toNat_natCast]
  have eT:(fq (A.rows.map (iU A.labs))).getD n []=[.aA 1 ((iU A.labs (A.rows.getD n [])).map encI) A.labs.length]:=by
   rw[sW _ (by rw[agv];exact hn),agh,fD,aeS,aes hn];rfl
  have eLT:(fq (A.rows.map (iU A.labs))).length=A.rows.length:=by rw[gM,agv]
  have lT:((iU A.labs (A.rows.getD n [])).map encI).length=A.labs.length:=by rw[agv,fD]
  rw[eX]at W⊢;generalize H:stepT (look (A.rows.getD n []) l)=rv at W⊢
  (refine aj.enter func70 rfl zo zo rfl (by simp only[go_sem,aQ,AV.wf,agp,Bool.and_true,Bool.true_and,W]) (by simp only[go_sem,aQ,AV.wf,bz,agp,Bool.and_true,Bool.true_and,W]) ?_;simp only[ntmps70,results70,ae0,aeg,Nat.reduceAdd,Nat.reduceSub,afJ,List.replicate_zero,List.cons_append,List.nil_append])
  (refine ag ?_;intro K hK)
  refine aZ (ι:=Nat) 9 (λk=>[(8,.v (.int .i64 k))]) (λk=>A.labs.length-k) (λk=>k<=A.labs.length∧∀(j:Nat)(h:j<A.labs.length),j<k->A.labs[j]=l->look (A.rows.getD n []) l=none) 0 ⟨aen _,λj _ h=>absurd h (Nat.not_lt_zero _)⟩ ?_ ?_
  ·refine ab (bF ?_) ar ar
   all_goals rfl
  ·rintro k ⟨hk,O⟩ K hK;have eW:=ae (k:=k) zd
   (revert K;revert K;refine ag ?_;intro K hK K hK K hK)
   refine cn.part (λh=>?_) (λh=>?_)
   ·have u:k<A.labs.length:=by replace h:=cq h;omega
    have eG:=getD_map encS A.labs k [] u
    have hkR:k<(iU A.labs (A.rows.getD n [])).length:=by rw[fD];exact u
    have eGk:=Po (iU A.labs (A.rows.getD n [])) hkR
    have eV:(iU A.labs (A.rows.getD n []))[k]=(match look (A.rows.getD n []) A.labs[k]with|some t=>(t:Int)|none=> -1):=by
     simp only[iU,agh];cases look (A.rows.getD n []) A.labs[k]<;>rfl
    rw[eV]at eGk;simp only[encS]at eG
    have cont:(A.labs[k]=l->look (A.rows.getD n []) l=none)->∀(j:Nat)(h:j<A.labs.length),j<k+1->A.labs[j]=l->look (A.rows.getD n []) l=none:=λhh j hj hjk e=>by
     rcases Nat.lt_succ_iff_lt_or_eq.1 hjk with q|rfl
     ·exact O j hj q e
     ·exact hh e
    by_cases V:A.labs[k]=l
    ·have f1:(A.labs[k].toList==l.toList)=true:=by rw[V];simp
     cases U:look (A.rows.getD n []) A.labs[k]with
     |none=>
      rw[U]at eGk;simp only at eGk
      ((iterate 3 revert K);refine dj (gB9 d0 d1 eG h f1 eT eLT eGk lT) ?_)
      refine ak eW ?_;exact aw.mk (k+1) ⟨u,cont λe=>by rw[<-e];exact U⟩ zd (by exact ab ar ar ar)
     |some t=>
      rw[U]at eGk;simp only at eGk;have d2:decide ((0:Int)<=(t:Int))=true:=b0;rw[<-V,U]at H
      repeat(first|(with_reducible first|refine bA.up ?_|refineλ(K:AK)hK=>?_|(refine hK _ ?_;clear hK K))|simp only[go_sem,d0,d1,eG,h,f1,eT,eLT,eGk,lT,d2,Go.undef]|with_reducible refine wA ?_|clear hK K)
      rw[<-H];exact iE.of 40 rfl (by simp only[go_sem,Nat.reduceLT,Nat.reduceLeDiff,Nat.reduceEqDiff,agq,agr,and_self])
    ·have f1:(A.labs[k].toList==l.toList)=false:=by
      cases hh:(A.labs[k].toList==l.toList)
      ·rfl
      ·exact absurd (toList_inj.1 hh) V
     ((iterate 3 revert K);refine dj (qu d0 d1 eG h f1) ?_)
     refine ak eW ?_;exact aw.mk (k+1) ⟨u,cont λe=>absurd e V⟩ zd (by exact ab ar ar ar)
   ·have hkn:k=A.labs.length:=by replace h:=cq h;omega
    have Y:look (A.rows.getD n []) l=none:=by
     cases U:look (A.rows.getD n []) l with
     |none=>rfl
     |some t=>
      have hm:=(LO.row _ (bK (d:=[]) hn)).1.subset (List.mem_map_of_mem (f:=Prod.fst) (lL U));obtain⟨j,hj,e⟩:=List.getElem_of_mem hm;rw[<-U];exact O j hj zd e
    rw[Y]at H
    ((iterate 3 revert K);refine ag ?_)
    rw[<-H];exact iE.of 40 rfl (by simp only[go_sem,Nat.reduceLT,Nat.reduceLeDiff,Nat.reduceEqDiff,agq,agr,and_self])
 ·have eX:jr A s l=none:=by rw[jr,if_neg hv]
  rw[eX];simp only[stepT,Option.getD_none,Option.isSome_none]
  have d:decide ((0:Int)<=s)=false∨(decide ((0:Int)<=s)=true∧decide (s<(A.rows.length:Int))=false):=by
   by_cases q:0<=s
   ·exact .inr ⟨decide_eq_true q,bi⟩
   ·exact .inl (decide_eq_false q)
  rcases d with d0|⟨d0,d1⟩
  all_goals
   refine gE func70 ntmps70 results70 ?_
   repeat(first|(with_reducible first|refine bA.up ?_|refineλ(K:AK)hK=>?_|(refine hK _ ?_;clear hK K))|simp only[go_sem]|with_reducible refine wA ?_|clear hK K)
   refine aZ (ι:=Nat) 9 (λk=>[(8,.v (.int .i64 k))]) (λk=>A.labs.length-k) (λk=>k<=A.labs.length) 0 (aen _) ?_ ?_
  ·refine ab (bF ?_) ar ar
   all_goals rfl
  ·intro k hk K hK;have eW:=ae (k:=k) zd
   (revert K;revert K;refine ag ?_;intro K hK K hK K hK)
   refine cn.part (λh=>?_) (λh=>?_)
   ·have u:k<A.labs.length:=by replace h:=cq h;omega
    ((iterate 3 revert K);refine dj d0 ?_)
    refine ak eW ?_;exact aw.mk (k+1) u zd (by exact ab ar ar ar)
   ·((iterate 3 revert K);refine ag ?_)
    exact iE.of 40 rfl (by simp only[go_sem,Nat.reduceLT,Nat.reduceLeDiff,Nat.reduceEqDiff,agq,agr,and_self])
  ·refine ab (bF ?_) ar ar
   all_goals rfl
  ·intro k hk K hK;have eW:=ae (k:=k) zd
   (revert K;revert K;refine ag ?_;intro K hK K hK K hK)
   refine cn.part (λh=>?_) (λh=>?_)
   ·have u:k<A.labs.length:=by replace h:=cq h;omega
    ((iterate 3 revert K);refine dj (q9 d0 d1) ?_)
    refine ak eW ?_;exact aw.mk (k+1) u zd (by exact ab ar ar ar)
   ·((iterate 3 revert K);refine ag ?_)
    exact iE.of 40 rfl (by simp only[go_sem,Nat.reduceLT,Nat.reduceLeDiff,Nat.reduceEqDiff,agq,agr,and_self])
theorem Q6{A:M2}{n k:Nat}(q:A.length=k)(h:k<n):ni (A++[0]) n=ni A n:=by
 subst q;rw[ni,ni,show n-A.length=(n-(A++[(0:Int)]).length)+1 by rw[aem,agz];omega,afJ];simp
theorem Gg{l:Do}{n:Nat}(h:l.length=n):ni (b5 l) n=aT l:=by rw[xo (by simpa [b5]using h),sY]
theorem qA(l:Do)(a:Nat):b5 (l++[a])=b5 l++[(a:Int)]:=by rw[b5,agN];rfl
theorem Fq(l:Do):(b5 l).length=l.length:=by simp[b5]
theorem AJ(l:N2){i:Nat}(h:i<l.length):(dF l).getD i []=[.v (.bool (l.getD i false))]:=by
 rw[dF,aeS,aeu,aes h,aeS,aes h];rfl
theorem Um(ends:N2){i:Nat}(h:i<ends.length):p0 (ends.take (i+1))=p0 (ends.take i)++[if ends.getD i false then 1 else 0]:=by
 rw[p0,p0,agD h,agN,aeS,aes h];rfl
theorem Wo{α:Type} [DecidableEq α]:∀(keys:List α),∀x∈(keys.foldl wC (([]:List α),([]:Do))).1,x∈keys:=by
 refine ij (λx h=>by simp at h) ?_;intro l a ih x q;rw[List.foldl_append]at q;simp only[List.foldl_cons,List.foldl_nil,wC]at q
 split at q
 ·exact afX _ (ih x q)
 ·rcases List.mem_append.1 q with q|q
  ·exact afX _ (ih x q)
  ·exact List.mem_append_right _ q
theorem Qv{labs:B0}{rows:N3}{ends:N2}(hn:rows.length<=1000)(hE:ends.length=rows.length)(hR:∀r∈rows,l8 (r.map Prod.fst))(hL:∀r∈rows,∀l∈r.map Prod.fst,l∈labs)(hs:tC rows)(h0:0<rows.length)(hT:∀r∈rows,∀p∈r,p.2<rows.length)(hl:labs.length<=1000) :
  aj prog 104 [.aA 1 (fq (rows.map (iU labs))) rows.length,.aA 1 (dF ends) rows.length] (.aA 1 (aT (b9 rows ends)) rows.length):=by
 have hP:=MS hR hL hs h0 (ends:=ends)
 have hA:aQ 0 [AV.aA 1 (fq (rows.map (iU labs))) rows.length,.aA 1 (dF ends) rows.length]=true:=by simp only[aQ,AV.wf,oT,qg,agp]
 have hF:(AV.aA 1 (aT (b9 rows ends)) rows.length).wf 0=true:=by simp only[AV.wf,jt]
 rw[<-hP]at hF⊢;generalize hrv:AV.aA 1 (aT (rh labs rows (rows.length+1) (p0 ends) 1 true)) rows.length=rv at hF⊢
 have eT:∀i,i<rows.length->(fq (rows.map (iU labs))).getD i []=[.aA 1 ((iU labs (rows.getD i [])).map encI) labs.length]:=λi hi=>by
  rw[sW _ (by rw[agv];exact hi),agh,fD,aeS,aes hi];rfl
 have eLT:(fq (rows.map (iU labs))).length=rows.length:=by rw[gM,agv]
 have eLE:(dF ends).length=rows.length:=by rw[jG,hE]
 generalize hnn:rows.length=n at *
 (refine aj.iy func104 rfl zo zo rfl hA hF ?_;simp only[ntmps104,results104,ae0,aeg,Nat.reduceAdd,Nat.reduceSub,afJ,List.replicate_zero,List.cons_append,List.nil_append])
 have eZ:=tY n
 (refine ak eZ ?_;intro K hK)
 refine aN (ι:=Nat) 14 (λi=>[(7,.v (.int .i64 i))]) (λi=>[some ⟨3,1,true,ni (b5 (p0 (ends.take i))) n⟩]) (λi=>n-i) (λi=>i<=n) 0 (aen _) ?_ ?_
 ·simp only[List.take_zero,p0,agt,b5];refine ab (bF ?_) ar ar
  all_goals rfl
 ·intro i hi K hK;have eW:=ae (k:=i) zd
  (revert K;revert K;refine ag ?_;intro K hK K hK K hK)
  refine cn.part (λh=>?_) (λh=>?_)
  ·have A:i<n:=by replace h:=cq h;omega
   have eE:=AJ ends (i:=i) zd;have eP:=Um ends (i:=i) zd
   have lA:(b5 (p0 (ends.take i))).length=i:=by rw[Fq,p0,agv,List.length_take];omega
   have O:(ni (b5 (p0 (ends.take i))) n).length=n:=k9 zd;have g0:=p9 lA A;have sQ:=tX 1 lA A;have sK:=Q6 lA A
   cases hb:ends.getD i false
   ·rw[hb]at eE eP
    ((iterate 3 revert K);refine ak (mQ h eE eLE) ?_)
    refine ak eW ?_;refine aw.mk (i+1) zd zd ?_;rw[eP,qA];simp only[Bool.false_eq_true,if_false,Int.natCast_zero];rw[sK];exact ab ar ar ar
   ·rw[hb]at eE eP
    ((iterate 3 revert K);refine CD (nU h eE eLE O g0 sQ) ?_)
    refine ak eW ?_;refine aw.mk (i+1) zd zd ?_;rw[eP,qA];simp only[if_true];rw[show((1:Nat):Int)=1 from rfl];exact ab ar ar ar
  ·have W:i=n:=by replace h:=cq h;omega
   have e1:ni (b5 (p0 (ends.take i))) n=aT (p0 ends):=by
    rw[W, <- hE,List.take_length];exact Gg (by rw[p0,agv])
   rw[e1]
   have lP:(aT (p0 ends)).length=n:=by rw[aT,agv,p0,agv,hE]
   ((iterate 3 revert K);refine dG 8 ?_;intro K hK K hK)
   refine bn (fP 5 0 rfl rfl rfl lP) zo ?_;simp only[afH,afG]
   (revert K;revert K;refine ag ?_;intro K hK)
   have hI:∀part,n=rows.length->((iQ labs rows part n).2=(fA rows part n).2∧(iQ labs rows part n).1.length=(fA rows part n).1.length):=λpart e=>tW hR hL hs zd
   refine aZ (ι:=Do×Nat×Nat) 14 (λy=>[(5,.aA 1 (aT y.1) n),(6,.v (.int .i64 y.2.1)),(8,.v (.int .i64 y.2.2)),(9,.undef),(10,.undef),(11,.undef),(12,.undef),(13,.undef)]) (λy=>n+1-y.2.2) (λy=>y.1.length=n∧y.2.1<=n+1∧y.2.2<=n+1∧AV.aA 1 (aT (rh labs rows (n+1-y.2.2) y.1 y.2.1 (y.2.2==0))) n=rv) (p0 ends,1,0) ⟨by rw[p0,agv];exact hE,by show 1<=n+1;omega,aen _,hrv⟩ ?_ ?_
   ·refine ab (bF ?_) ar ar
    all_goals first|rfl|exact⟨rfl,rfl⟩
   ·rintro⟨part,many,round⟩ ⟨q1,q2,q3,H⟩ K hK;simp only at q1 q2 q3 H;have eW2:=ae (k:=round) zd
    (revert K;revert K;refine ag ?_;intro K hK K hK K hK)
    refine cn.part (λh2=>?_) (λh2=>?_)
    ·have hrn:round<=n:=by replace h2:=cq h2;omega
     rw[show n+1-round=(n-round)+1 by omega,rh,hnn]at H
     ((iterate 3 revert K);refine ak eZ ?_;iterate 4 intro K hK)
     refine fN (ι:=Nat) 9 56 1 rfl zs 14 (λi=>[(9,.vec 2 (iQ labs rows part i).1.length),(11,.v (.int .i64 i))]) (λi=>[none,some ⟨3,1,true,ni (b5 (iQ labs rows part i).2) n⟩,some ⟨56,1,true,fq (iQ labs rows part i).1⟩]) (λi=>n-i) (λi=>i<=n) 0 (aen _) ?_ ?_
     ·simp only[iQ,List.range_zero,agt,List.foldl_nil,b5];refine ab (bF ?_) (bF ?_) ar
      all_goals rfl
     ·intro i hi K hK
      have lPn:(aT part).length=n:=by rw[aT,agv];exact q1
      have hIi:=tW (part:=part) hR hL hs (n:=i) zd;have okI:=jl rows part i
      have V:(iQ labs rows part i).2.length=i:=by rw[hIi.1];exact okI.len
      have l1:(iQ labs rows part i).1.length<=i:=by rw[hIi.2];exact okI.le
      have U:∀l∈(iQ labs rows part i).1,l.length=labs.length+1:=λl hl=>by
       obtain⟨j,_,rfl⟩:=List.mem_map.1 (Wo _ l hl);rw[jM,ae0,agv,fD]
      have eS:iQ labs rows part (i+1)=wC (iQ labs rows part i) (jM labs rows part i):=by rw[iQ,List.range_succ,agN,List.foldl_append];rfl
      generalize hRR:iQ labs rows part i=RR at *;obtain⟨rr,nn⟩:=RR;simp only at l1 V U
      ((iterate 5 revert K);refine ag ?_;iterate 6 intro K hK)
      refine cn.part (λh3=>?_) (λh3=>?_)
      ·have A:i<n:=by replace h3:=cq h3;omega
       have eP:(aT part).getD i []=[.v (.int .i64 (part.getD i 0:Nat))]:=by rw[aT,aeS,aeu,aes zd,aeS,aes zd];rfl
       have eTi:=eT i A
       have lT:((iU labs (rows.getD i [])).map encI).length=labs.length:=by rw[agv,fD]
       have lK:(jM labs rows part i).length=labs.length+1:=by rw[jM,ae0,agv,fD]
       ((iterate 6 revert K);refine ak (mQ h3 eP lPn) ?_;iterate 7 intro K hK)
       refine aN (ι:=Nat) 14 (λk=>[(12,.vec 3 (k+1)),(13,.v (.int .i64 k))]) (λk=>[none,some ⟨3,1,true,ni (b5 nn) n⟩,some ⟨56,1,true,fq rr⟩,some ⟨3,1,true,((jM labs rows part i).take (k+1)).map encI⟩]) (λk=>labs.length-k) (λk=>k<=labs.length) 0 (aen _) ?_ ?_
       ·simp only[jM,List.take_succ_cons,List.take_zero,List.map_cons,agt,encI];refine ab (bF ?_) ar ar
        all_goals first|rfl|exact⟨rfl,rfl⟩
       ·intro k hk K hK;have eWk:=ae (k:=k) zd
        repeat(first|(with_reducible first|refine bA.up ?_|refineλ(K:AK)hK=>?_|(refine hK _ ?_;clear hK K))|simp only[go_sem,eTi,eLT]|with_reducible refine wA ?_|clear hK K)
        refine cn.part (λY=>?_) (λY=>?_)
        ·have hlk:k<labs.length:=by replace Y:=cq Y;omega
         have hkR:k<(iU labs (rows.getD i [])).length:=by rw[fD];exact hlk
         have eGk:=Po (iU labs (rows.getD i [])) hkR
         have lTk:(((jM labs rows part i).take (k+1)).map encI).length=k+1:=by rw[agv,List.length_take];omega
         have eN:((jM labs rows part i).take (k+1)).map encI++[[.v (.int .i64 (if(iU labs (rows.getD i []))[k]<0 then -1 else((part.getD ((iU labs (rows.getD i []))[k]).toNat 0:Nat):Int)))]]=((jM labs rows part i).take (k+1+1)).map encI:=by
          rw[show(jM labs rows part i).take (k+1+1)=(jM labs rows part i).take (k+1)++[(jM labs rows part i)[k+1]]from agD zd,agN]
          congr 1
          simp only[jM,List.getElem_cons_succ,agh,List.map_cons,agt,encI]
         have hrng: ¬(iU labs (rows.getD i []))[k]<0->((iU labs (rows.getD i []))[k]).toNat<n:=λhh=>by
          simp only[iU,agh]at hh⊢
          cases hq:look (rows.getD i []) labs[k]with
          |none=>rw[hq]at hh;exact absurd zs hh
          |some t=>
           simp only[Int.toNat_natCast];exact hT _ (bK (d:=[]) zd) _ (lL hq)
         generalize htt:(iU labs (rows.getD i []))[k]=tt at *
         by_cases ht:tt<0
         ·have d1:decide (tt<0)=true:=decide_eq_true ht;rw[if_pos ht]at eN
          repeat(first|(with_reducible first|refine bA.up ?_|refineλ(K:AK)hK=>?_|(refine hK _ ?_;clear hK K))|simp only[go_sem,Y,eTi,eLT,eGk,lT,d1,lTk,eN]|with_reducible refine wA ?_|clear hK K)
          refine ak eWk ?_;refine aw.mk (k+1) zd zd ?_;exact ab ar ar ar
         ·have d1:decide (tt<0)=false:=decide_eq_false ht;have hrn2:=hrng ht;have hnat:((tt.toNat:Nat):Int)=tt:=Int.toNat_of_nonneg zd;rw[if_neg ht]at eN;generalize tt.toNat=tn at *;subst hnat
          have eP2:(aT part).getD tn []=[.v (.int .i64 (part.getD tn 0:Nat))]:=by rw[aT,aeS,aeu,aes zd,aeS,aes zd];rfl
          repeat(first|(with_reducible first|refine bA.up ?_|refineλ(K:AK)hK=>?_|(refine hK _ ?_;clear hK K))|simp only[go_sem,Y,eTi,eLT,eGk,lT,d1,lTk,eN,eP2,lPn]|with_reducible refine wA ?_|clear hK K)
          refine ak eWk ?_;refine aw.mk (k+1) zd zd ?_;exact ab ar ar ar
        ·have hkl:k=labs.length:=by replace Y:=cq Y;omega
         rw[hkl,show(jM labs rows part i).take (labs.length+1)=jM labs rows part i by rw[<-lK,List.take_length]]
         repeat((fail_if_success (with_reducible refine ku (i:=23) ?_));first|(with_reducible first|refine bA.up ?_|refineλ(K:AK)hK=>?_|(refine hK _ ?_;clear hK K))|simp only[go_sem]|with_reducible refine wA ?_|clear hK K)
         refine bn (fP 12 3 rfl rfl rfl (by rw[agv,lK])) zo ?_;simp only[afH,afG];have AT:=On rr (jM labs rows part i) zd (λl hl=>by have:=U l hl;omega) zd;rw[Wd]at AT;rw[lK]at AT;rw[wC]at eS;simp only at eS
         have lN:(b5 nn).length=i:=by rw[Fq];exact V
         have O:(ni (b5 nn) n).length=n:=k9 zd;have g0:=p9 lN A;have sQ:=λv=>tX v lN A;have gQ:=λu=>DJ (n:=n) u lN;have sR:=λu v=>zq (n:=n) u v lN;have eL2:∀v:Int,(ni (b5 nn++[v]) n).length=n:=λv=>k9 (by rw[aem,agz];omega);have eWi:=ae (k:=i) zd
         ((iterate 7 revert K);refine ag ?_;iterate 8 intro K hK)
         cases hp:rr.findIdx? (λy=>decide (jM labs rows part i=y))with
         |some j=>
          rw[hp]at AT eS;simp only at AT eS;have d2:decide ((j:Int)<0)=false:=bi;refine ah.CA AT 8 rfl (by simp only[go_sem,Nat.reduceLT,Nat.reduceLeDiff,Nat.reduceEqDiff,agq,agr,and_self,oT,gM]) rfl ?_
          ((iterate 8 revert K);refine CD (nU O g0 sQ d2 gQ eL2) ?_)
          refine ak eWi ?_;refine aw.mk (i+1) zd zd ?_;rw[eS,qA];exact ab ar ar ar
         |none=>
          rw[hp]at AT eS;simp only at AT eS
          have eLr:fq rr++[[AV.aA 1 ((jM labs rows part i).map encI) (labs.length+1)]]=fq (rr++[jM labs rows part i]):=by
           rw[fq,fq,agN, <- lK];rfl
          refine ah.CA AT 8 rfl (by simp only[go_sem,Nat.reduceLT,Nat.reduceLeDiff,Nat.reduceEqDiff,agq,agr,and_self,oT,gM]) rfl ?_
          ((iterate 8 revert K);refine CD (qu O g0 sQ gQ eL2) ?_)
          refine CD (pt eL2 gQ sR eLr) ?_;refine ak eWi ?_;refine aw.mk (i+1) zd zd ?_;rw[eS,qA];simp only[aem,ae0,aeg];exact ab ar ar ar
      ·have W:i=n:=by replace h3:=cq h3;omega
       rw[W]at hRR V;rw[hRR]at H;simp only at H;rw[Gg V]
       have lNN:(aT nn).length=n:=by rw[aT,agv];exact V
       ((iterate 6 revert K);refine dG 27 ?_;iterate 4 intro K hK)
       refine bn (fP 10 1 rfl rfl rfl lNN) zo ?_;simp only[afH,afG]
       have next:(¬(rr.length=many∧(round==0)=false))->AV.aA 1 (aT (rh labs rows (n+1-(round+1)) nn rr.length (round+1==0))) n=rv:=λhno=>by
        rw[if_neg hno]at H;rw[show n+1-(round+1)=n-round by omega,show(round+1==0)=false by simp];exact H
       by_cases hm:rr.length=many
       ·have d1:((rr.length:Int)==(many:Int))=true:=by simp[hm]
        by_cases hr0:0<round
        ·have d2:decide ((0:Int)<(round:Int))=true:=b0;rw[if_pos ⟨hm,ahn⟩]at H
         ((iterate 4 revert K);refine dj (q9 d1 d2) ?_)
         rw[<-H];exact bC.Ag (jt _ _)
        ·have d2:decide ((0:Int)<(round:Int))=false:=bi
         have q5:=next λq=>by have:=q.2;simp at this;omega
         ((iterate 4 revert K);refine dj (q9 d1 d2) ?_)
         refine ak eW2 ?_;refine aw.mk (nn,rr.length,round+1) ⟨V,by show rr.length<=n+1;omega,by show round+1<=n+1;omega,q5⟩ (by show n+1-(round+1)<n+1-round;omega) ?_;exact ab ar ar ar
         all_goals trace_state
       ·have d1:((rr.length:Int)==(many:Int))=false:=by simp[Int.natCast_inj,hm]
        have q5:=next λq=>hm q.1
        ((iterate 4 revert K);refine dj d1 ?_)
        refine ak eW2 ?_;refine aw.mk (nn,rr.length,round+1) ⟨V,by show rr.length<=n+1;omega,by show round+1<=n+1;omega,q5⟩ (by show n+1-(round+1)<n+1-round;omega) ?_;exact ab ar ar ar
        all_goals trace_state
    ·have hrn:round=n+1:=by replace h2:=cq h2;omega
     rw[hrn,Nat.sub_self,rh]at H
     ((iterate 3 revert K);refine ag ?_)
     rw[<-H];exact bC.Ag (jt _ _)
def XK(a b:ByteArray):Bool:=Op.bytesLess a.toList b.toList
theorem Kt{a b:ByteArray}:XK a b=true↔a.data.toList<b.data.toList:=by
 rw[XK,bytesLess_eq,decide_eq_true_eq,ByteArray.toList_eq,ByteArray.toList_eq]
def db(l:B0):B0:=(Go.Lib.compact ((l.map (λs=>s.data.toList)).mergeSort (λx y=>decide (x<=y)))).map (λl=>⟨l.toArray⟩)
theorem Ji(x:Ex):db (aI x)=ct x:=rfl
theorem oL(l:B0):l8 (db l):=by
 grind[l8,db,mM]
theorem qI{l:B0}{s:ByteArray}:s∈db l↔s∈l:=by
 rw[db,List.mem_map]
 constructor
 ·rintro⟨l,h,rfl⟩
  have:=((mM _).2 l).1 h
  obtain⟨t,q,rfl⟩:=List.mem_map.1 this;omega
 grind[mM,List.mem_map_of_mem]
theorem Nc(l:B0):(db l).length<=l.length:=(oN (oL l)).length_le_of_subset λ_ h=>qI.1 h
theorem Nf:db []=[]:=by
 cases h:db []with
 |nil=>rfl
 |cons a l=>
  grind[List.mem_cons_self,qI]
structure Su(l:B0)(s:ByteArray)(k:Nat):Prop where
 le:k<=l.length
 lo:∀(j:Nat)(h:j<l.length),j<k->XK l[j] s=true
 hi:∀h:k<l.length,XK l[k] s=false
theorem Mp{L:B0}{s:ByteArray}{k:Nat}(q:k<(db L).length)(e:(db L)[k]=s):db L=db (L++[s]):=by
 grind[nh,oL,qI,af3,afm]
theorem TL{L:B0}{s:ByteArray}{k:Nat}(h:Su (db L) s k)(H:∀A:k<(db L).length,(db L)[k]≠s):(db L).take k++s::(db L).drop k=db (L++[s]):=by
 have R:=oL L
 refine nh ?_ (oL _) λt=>?_
 ·rw[l8,List.pairwise_append,List.pairwise_cons]
  have lo:∀a∈(db L).take k,a.data.toList<s.data.toList:=λa u=>by
   obtain⟨j,O,rfl⟩:=List.getElem_of_mem u;rw[List.length_take]at O;rw[List.getElem_take];exact Kt.1 (h.lo j zd zd)
  have hi:∀a∈(db L).drop k,s.data.toList<a.data.toList:=λa u=>by
   obtain⟨j,O,rfl⟩:=List.getElem_of_mem u;rw[List.length_drop]at O;rw[List.getElem_drop]
   have A:k<(db L).length:=zd
   have W: ¬(db L)[k].data.toList<s.data.toList:=λq=>by
    have:=h.hi A;grind[Kt]
   have U:s.data.toList<(db L)[k].data.toList:=by
    refine Classical.byContradiction λq=>H A ?_
    grind[List.le_antisymm,List.not_lt,ByteArray.ext,Array.toList_inj]
   cases j with
   |zero=>exact U
   |succ j=>exact List.lt_trans U (List.pairwise_iff_getElem.1 R k (k+(j+1)) A zd zd)
  exact⟨R.sublist (List.take_sublist _ _),⟨λa u=>hi a u,R.sublist (List.drop_sublist _ _)⟩,λa u b V=>by
   grind⟩
 grind[qI,af3,List.take_append_drop]
theorem KC{rows:N3}:∀(f:Nat){part:Do}{many:Nat},(∀s,s<rows.length->part.getD s 0<rows.length)->∀s,s<rows.length->(qS rows f part many).getD s 0<rows.length
 |0,part,many,h=>by grind[qS]
 |f+1,part,many,h=>by
  have q:∀s,s<rows.length->(gC rows part).getD s 0<rows.length:=λs u=>Nat.lt_of_lt_of_le (lQ rows u) (pW rows part);rw[qS]
  split
  ·exact q
  ·exact KC f q
theorem MT{rows:N3}{ends:N2}{s:Nat}(q:s<rows.length):(b9 rows ends).getD s 0<rows.length:=by
 have u:∀s,s<rows.length->(gC rows (p0 ends)).getD s 0<rows.length:=λs q=>Nat.lt_of_lt_of_le (lQ rows q) (pW rows (p0 ends));rw[b9,show rows.length+2=(rows.length+1)+1 from rfl,qS]
 split
 ·exact u s q
 ·exact KC _ u s q
def FQ(part order:Do)(n:Nat):M2:=(List.range n).map (λp=>match kY part order p with
 |some k=>(k:Int)
 |none=> -1)
theorem tD(part order:Do)(n:Nat):(FQ part order n).length=n:=by simp[FQ]
theorem xg{part order:Do}{n p:Nat}(h:p<n):(FQ part order n)[p]?=some (match kY part order p with
 |some k=>(k:Int)
 |none=> -1):=by grind[FQ,List.getElem?_range]
theorem M1(part order:Do)(t x:Nat):kY part (order++[t]) x=match kY part order x with
 |some k=>some k
 |none=>if x=part.getD t 0 then some order.length else none:=by
 rw[kY,List.map_append,List.findIdx?_append];rw[kY]
 cases(order.map (λs=>part.getD s 0)).findIdx? (λy=>x==y)with
 |some k=>rfl
 |none=>
  simp_all
theorem Qj{part order:Do}{n t:Nat}(hn:kY part order (part.getD t 0)=none)(q:part.getD t 0<n):(FQ part order n).set (part.getD t 0) (order.length:Int)=FQ part (order++[t]) n:=by
 refine List.ext_getElem? λi=>?_
 by_cases hi:i<n
 ·rw[xg hi,M1]
  by_cases e:part.getD t 0=i
  ·grind[List.getElem?_set_self,tD]
  ·rw[List.getElem?_set_ne e,xg hi]
   grind
 grind[ahh,List.length_set,tD]
theorem ML(part:Do)(n:Nat):FQ part [] n=List.replicate n (-1):=by
 refine List.ext_getElem? λi=>?_
 by_cases hi:i<n
 ·rw[xg hi,List.getElem?_replicate,if_pos hi];rfl
 grind[ahh,tD,List.length_replicate]
def Jj(part:Do)(row:bD)(labs:B0)(order:Do):Do:=labs.foldl (λo l=>DI part o (look row l)) order
theorem Ge(part:Do)(row:bD)(labs:B0)(l:ByteArray)(order:Do):Jj part row (labs++[l]) order=DI part (Jj part row labs order) (look row l):=by rw[Jj,List.foldl_append];rfl
theorem Xa{part:Do}{row:bD}{n:Nat}{order:Do}(hn:(order.map (λs=>part.getD s 0)).Nodup)(hl:∀s∈order,s<n)(O:∀p∈row,p.2<n):∀labs:B0,
  ((Jj part row labs order).map (λs=>part.getD s 0)).Nodup∧(∀s∈Jj part row labs order,s<n)∧∃t,Jj part row labs order=order++t:=by
 refine ij ⟨hn,hl,[],by simp[Jj]⟩ ?_;rintro labs l ⟨V,A,t,U⟩;rw[Ge]
 cases H:look row l with
 |none=>exact⟨V,A,t,U⟩
 |some u=>
  rw[DI]
  cases W:kY part (Jj part row labs order) (part.getD u 0)with
  |some k=>grind
  |none=>
   refine⟨?_,λs q=>?_,t++[u],by grind⟩
   ·grind[List.nodup_append,af3,Bu]
   ·rcases List.mem_append.1 q with q|q
    ·exact A s q
    ·rw[af3]at q;subst q;exact O _ (lL H)
theorem IM(x:Ex):∀(L:B0),aD x=true->L.length+(aI x).length<=1000->aj prog 138 [.agg (aP x),bZ (db L)] (bZ (db (L++aI x))):=by
 induction x using Ex.ind with
 |h kd s l ih=>
  intro L hr Y;have hRL:=Nc L
  have hF:(bZ (db (L++aI (.mk kd s l)))).wf 0=true:=by simp only[bZ,AV.wf,bz]
  have hA:aQ 0 [AV.agg (aP (.mk kd s l)),bZ (db L)]=true:=by simp only[bZ,aQ,AV.wf,fp,bz,Bool.and_self]
  by_cases U:kd=1
  ·subst U
   have eL:aI (.mk 1 s l)=[s]:=by rw[aI,if_pos rfl]
   rw[eL]at hF Y⊢;have hT:=λk(q:k<(db L).length)(e:(db L)[k]=s)=>Mp q e;have hI:=λk(q:Su (db L) s k)h=>TL q h;generalize A:bZ (db (L++[s]))=rv at hF⊢;generalize db L=m at *;simp only[List.length_append,List.length_singleton]at Y;simp only[aB,bZ,Ex.kind,Ex.label,Ex.kids]at hA A⊢
   (refine aj.iy func138 rfl zo zo rfl hA hF ?_;simp only[ntmps138,results138,List.length_cons,List.length_nil,Nat.reduceAdd,Nat.reduceSub,List.replicate_succ,List.replicate_zero,List.cons_append,List.nil_append])
   (refine bc ?_;intro K hK K hK)
   refine aZ (ι:=Nat) 8 (λk=>[(5,.v (.int .i64 k))]) (λk=>m.length-k) (λk=>k<=m.length∧∀(j:Nat)(h:j<m.length),j<k->XK m[j] s=true) 0 ⟨Nat.zero_le _,λj _ h=>absurd h (Nat.not_lt_zero _)⟩ ?_ ?_
   ·refine ab (bF ?_) ar ar
    all_goals rfl
   ·rintro k ⟨U,H⟩ K hK;have eW:=ae (k:=k) zd
    have fin:∀(h:Su m s k),(∀q:k<m.length,m[k]≠s)->AV.aA 1 ((m.take k).map encS++([AV.v (.string s)]::(m.drop k).map encS)) (k+(m.length-k+1))=rv:=λh hne=>by
     have e:=hI k h hne
     have el:(k+(m.length-k+1))=(db (L++[s])).length:=by rw[<-e];simp;omega
     rw[<-A,el, <- e];simp[encS]
    have r1:((m.map encS).drop k).take (m.length-k)=(m.drop k).map encS:=by
     rw[<-List.map_drop];exact List.take_of_length_le zk
    have r2:(m.drop k).length=m.length-k:=zk
    have r3:(m.map encS).take k=(m.take k).map encS:=by rw[List.map_take]
    have r4:(m.take k).length=k:=ahn
    by_cases d1:k<m.length
    ·have V:decide ((k:Int)<(m.length:Int))=true:=b0;have eG:=getD_map encS m k [] d1;simp only[encS]at eG
     cases e2:XK m[k] s
     ·have O:Su m s k:=⟨U,H,λ_=>e2⟩;have e3:Op.bytesLess m[k].toList s.toList=false:=e2
      by_cases W:m[k]=s
      ·have f1:(m[k].toList==s.toList)=true:=by rw[W];simp
       have hrr:=hT k d1 W
       ((iterate 3 revert K);refine cw (pt V eG e3 f1) ?_)
       rw[<-A, <- hrr];exact bC.Ag (bz 0 _)
      ·have f1:(m[k].toList==s.toList)=false:=by
        cases hh:(m[k].toList==s.toList)
        ·rfl
        ·exact absurd (toList_inj.1 hh) W
       have hf:=fin O λ_=>W
       ((iterate 3 revert K);refine AO 7 (pt V eG e3 f1) ?_;intro K hK K hK)
       refine bG [2,6] [(5,0)] za zo ?_
       (revert K;revert K;refine Fb (pt r1 r2 r3 r4) ?_)
       rw[<-hf];exact bC.sj (ob:=⟨9,1,true,(m.take k).map encS++([AV.v (.string s)]::(m.drop k).map encS)⟩) rfl rfl ahn (by rw[gx,bz];exact bz 0 (s::m.drop k))
     ·have e3:Op.bytesLess m[k].toList s.toList=true:=e2
      ((iterate 3 revert K);refine cw (mQ V eG e3) ?_)
      refine aG eW ?_
      exact aw.mk (k+1) ⟨d1,λj hj hjk=>by
       rcases Nat.lt_succ_iff_lt_or_eq.1 hjk with q|rfl
       ·exact H j hj q
       ·exact e2⟩ zd (by exact ab ar ar ar)
    ·have V:decide ((k:Int)<(m.length:Int))=false:=bi;have hf:=fin ⟨U,H,λh=>absurd h d1⟩ λh=>absurd h d1
     ((iterate 3 revert K);refine AO 7 V ?_;intro K hK K hK)
     refine bG [2,6] [(5,0)] za zo ?_
     (revert K;revert K;refine Fb (pt r1 r2 r3 r4) ?_)
     rw[<-hf];exact bC.sj (ob:=⟨9,1,true,(m.take k).map encS++([AV.v (.string s)]::(m.drop k).map encS)⟩) rfl rfl ahn (by rw[gx,bz];exact bz 0 (s::m.drop k))
  ·have eL:aI (.mk kd s l)=aV l:=dL U s l;rw[eL]at hF Y⊢
   have hlen:l.length<=1000:=by
    have:=(fO hr).1
    simp only[aD,Bool.and_eq_true,decide_eq_true_eq]at hr;have h2:=ja kd s l;have h3:=yi l;omega
   simp only[aB,bZ,Ex.kind,Ex.label,Ex.kids]at hA⊢
   have f1:(kd==1)=false:=by simpa using U
   refine gE func138 ntmps138 results138 ?_
   (refine aG f1 ?_;intro K hK)
   refine aZ (ι:=Nat) 8 (λi=>[(1,.aA 1 ((db (su L l i)).map encS) (db (su L l i)).length),(7,.v (.int .i64 i))]) (λi=>l.length-i) (λi=>i<=l.length) 0 (Nat.zero_le _) ?_ ?_
   ·rw[Vt];refine ab (bF ?_) ar ar
    all_goals rfl
   ·intro i hi K hK;have eW:=ae (k:=i) zd
    (revert K;revert K;refine bc ?_;intro K hK K hK K hK)
    refine cn.part (λh=>?_) (λh=>?_)
    ·have u:i<l.length:=by replace h:=cq h;omega
     have eG:=getD_map aP l i [] u;have C:=ih l[i] (afm u) (su L l i) (oJ hr _ (afm u)) (PW u Y);rw[yF u]at C;simp only[aB,bZ]at C eG
     ((iterate 3 revert K);refine aG (q9 h eG) ?_;iterate 4 intro K hK)
     ((iterate 4 revert K);refine CG C eW ?_)
     refine aw.mk (i+1) zd zd ?_;exact ab ar ar ar
    ·have O:i=l.length:=by replace h:=cq h;omega
     have e:su L l i=L++aV l:=by rw[O,su,List.take_length]
     rw[e]
     ((iterate 3 revert K);refine bc ?_)
     exact iE.aA (bz 0 _)
theorem Ng(x:Ex)(q:aD x=true)(A:(aq x).length<=1000000)(u:∀z,z∈aq x->z.kids.length<=1000000∧z.label.size<=1000000000000000):aj prog 102 [.agg (aP x)] (bZ (ct x)):=by
 have R:=qH x A u;rw[q]at R;have hn:=u7 q;have C:=IM x [] q ahn;rw[List.nil_append,Ji,Nf]at C;have H:=C.le (args':=[.agg (aP x),.v (.slice none 0 0)]) (by simp only[aQ,AV.wf,fp,Bool.and_self]) (.cons (.refl _) (.cons (.nil 1) .nil));simp only[aB,bZ]at *;refine gE func102 ntmps102 results102 ?_
 (refine ag ?_;intro K hK K hK K hK)
 ((iterate 3 revert K);refine aM R ?_;intro K hK K hK)
 (revert K;revert K;refine aM H ?_)
 exact iE.aA (bz 0 _)
noncomputable def IY(x:Ex):AV:=match gb x (ct x)with
 | .inl A=> .ck [.vp (sb A),.v (.int .i64 0)]
 | .inr e=> .ck [.v (.pointer none),.v (.int .i64 e)]
theorem Vb(x:Ex):(IY x).wf 0=true:=by
 unfold IY
 split
 ·simp only[AV.wf,aQ,xu,Bool.and_self]
 ·rfl
def r6(part order:Do)(n:Nat):List C5:=(FQ part order n).map encI
def QP(part order:Do)(p:Nat):Int:=match kY part order p with
 |some k=>(k:Int)
 |none=> -1
@[go_sem] theorem abQ(z:Nat)(part order:Do)(n:Nat):bE z (r6 part order n)=true:=bt _ (λ_=>rfl) _
@[go_sem] theorem yV(part order:Do)(n:Nat):(r6 part order n).length=n:=by rw[r6,agv,tD]
theorem yU{part order:Do}{n p:Nat}(h:p<n):(r6 part order n).getD p []=[.v (.int .i64 (QP part order p))]:=by
 rw[r6,aeS,aeu,xg h];rfl
theorem FP{part order:Do}{n t:Nat}(hn:kY part order (part.getD t 0)=none)(q:part.getD t 0<n):(r6 part order n).set (part.getD t 0) [.v (.int .i64 (order.length:Nat))]=r6 part (order++[t]) n:=by
 rw[r6,r6, <- Qj hn q,List.map_set];rfl
theorem MK(part:Do)(n:Nat):ni (List.replicate n (-1)) n=r6 part [] n:=by rw[xo zk,r6,ML]
def yW(x:Ex)(labs:B0)(c d:AV)(tl:AC):AC:=some ⟨25,3,false,[[.v (.int .i64 x.kind),.v (.string x.label),.aA 3 (x.kids.map aP) x.kids.length]]⟩ ::some ⟨139,3,false,[[.aA 1 (labs.map encS) labs.length,c,d]]⟩ ::tl
theorem sZ(l:Do):(aT l).length=l.length:=by rw[aT,agv]
theorem pG{l:Do}{i:Nat}(h:i<l.length):(aT l).getD i []=[.v (.int .i64 ((l.getD i 0:Nat):Int))]:=by
 rw[aT,aeS,aeu,aes h,aeS,aes h];rfl
theorem LY(l:Do)(a:Nat):aT (l++[a])=aT l++[[.v (.int .i64 (a:Nat))]]:=by rw[aT,agN];rfl
theorem Ug(x:Ex)(h1:(aq x).length<=1000000)(hz:∀z,z∈aq x->z.kids.length<=1000000∧z.label.size<=1000000000000000):aj prog 68 [.agg (aP x)] (IY x):=by
 have CN:=qH x h1 hz;have hF:=Vb x
 have hA:aQ 0 [AV.agg (aP x)]=true:=by simp only[aQ,AV.wf,fp,Bool.and_self]
 have hu:IY x=(if aD x then(match qd x (ct x)with
  |some st=>if 32<(jg (ct x) st).rows.length then .ck [.v (.pointer none),.v (.int .i64 11)]else .ck [.vp (sb (jg (ct x) st)),.v (.int .i64 0)]
  |none=> .ck [.v (.pointer none),.v (.int .i64 11)])else .ck [.v (.pointer none),.v (.int .i64 2)]):=by
  unfold IY gb
  cases aD x
  ·rfl
  ·simp only[if_true]
   cases qd x (ct x)with
   |none=>rfl
   |some st=>
    by_cases h32:32<(jg (ct x) st).rows.length
    ·simp only[if_pos h32]
    ·simp only[if_neg h32]
 rw[hu]at hF⊢;clear hu
 cases hr:aD x
 ·rw[hr]at CN hF;simp only[Bool.false_eq_true,if_false]at CN hF⊢;simp only[aB]at *;refine gE func68 ntmps68 results68 ?_
  (refine bc ?_;intro K hK K hK K hK)
  ((iterate 3 revert K);refine lG CN ?_)
  (refine iE.of 40 rfl ?_;simp only[go_sem])
 ·have CL:=Ng x hr h1 hz;rw[hr]at CN hF;simp only[if_true]at CN hF⊢;have hln:=Df hr;have hlE:=u7 hr;have CS:=Rg hr h1 hz (ct x) (kT x) zd zd
  cases hst:qd x (ct x)with
  |none=>
   rw[hst]at CS hF;simp only[qc]at CS;simp only[aB,bZ]at *;refine gE func68 ntmps68 results68 ?_
   (refine bc ?_;intro K hK K hK K hK)
   ((iterate 3 revert K);refine lG CN ?_;intro K hK K hK)
   (revert K;revert K;refine lG CL ?_;intro K hK K hK)
   (revert K;revert K;refine kE CS ?_)
   (refine iE.of 40 rfl ?_;simp only[go_sem])
  |some ss=>
   rw[hst]at CS hF;obtain⟨ho,hl,hw⟩:=DP (bl (ba x)) (ba x).em (az (ba x).la) (kT x) hst;obtain⟨g1,g2,g3⟩:=Rh hr hst;have hmax:=ho.max;have hE:=ho.ends;have hT:=vv ho hl;have hN:=KY (kT x) ho;have hsub:∀r∈ss.rows,(r.map Prod.fst).Sublist (ct x):=λr h=>(ho.row r h).1;have CP:=Qv (labs:=ct x) (rows:=ss.rows) (ends:=ss.ends) zd hE (λr h=>(qB x).sublist (hsub r h)) (λr h l hl=>(hsub r h).subset hl) (vu (Dg hr) ho) g2 hT zd;have hpl:∀s,s<ss.rows.length->(b9 ss.rows ss.ends).getD s 0<ss.rows.length:=λs hs=>MT hs;obtain⟨qo,ql,qw⟩:=FG (ends:=ss.ends) hT hN g2 (b9 ss.rows ss.ends);have hnd:=kT x;have hLd:da ss.rows ss.ends (b9 ss.rows ss.ends)=pj ss.rows ss.ends (b9 ss.rows ss.ends) (ss.rows.length+1) q0:=rfl;simp only[qc,hE]at CS;simp only at hF⊢;generalize V:(if 32<(jg (ct x) ss).rows.length then AV.ck [.v (.pointer none),.v (.int .i64 11)]else .ck [.vp (sb (jg (ct x) ss)),.v (.int .i64 0)])=rv at hF⊢
   have hv1:32<(da ss.rows ss.ends (b9 ss.rows ss.ends)).rows.length->AV.ck [.v (.pointer none),.v (.int .i64 11)]=rv:=λh=>by rw[<-V];exact(if_pos h).symm
   have hv2: ¬ 32<(da ss.rows ss.ends (b9 ss.rows ss.ends)).rows.length->AV.ck [.vp (sb ⟨(da ss.rows ss.ends (b9 ss.rows ss.ends)).rows,(da ss.rows ss.ends (b9 ss.rows ss.ends)).ends,ct x⟩),.v (.int .i64 0)]=rv:=λh=>by rw[<-V];exact(if_neg h).symm
   clear V;generalize hpart:b9 ss.rows ss.ends=part at *;generalize hL:da ss.rows ss.ends part=L at *;obtain⟨all,rows,ends⟩:=ss;simp only at *;clear hst hw g1 ho;generalize ct x=labs at *
   have eT:∀i,i<rows.length->(fq (rows.map (iU labs))).getD i []=[.aA 1 ((iU labs (rows.getD i [])).map encI) labs.length]:=λi hi=>by
    rw[sW _ (by rw[agv];exact hi),List.getElem_map,fD,aeS,aes hi];rfl
   have eLT:(fq (rows.map (iU labs))).length=rows.length:=by rw[gM,agv]
   have eLE:(dF ends).length=rows.length:=by rw[jG,hE]
   have lP:(aT part).length=rows.length:=by rw[sZ];exact g3
   have tV:∀(r:bD)(k:Nat)(h:k<labs.length),((iU labs r).map encI).getD k []=[.v (.int .i64 (match look r labs[k]with|some t=>(t:Int)|none=> -1))]:=λr k h=>by
    rw[Po (iU labs r) (by rw[fD];exact h)];simp only[iU,List.getElem_map];cases look r labs[k]<;>rfl
   have tL:∀r:bD,((iU labs r).map encI).length=labs.length:=λr=>by rw[agv,fD]
   have eP0:=pG (l:=part) (i:=0) zd;have hp0:=hpl 0 g2;have eZ:=tY rows.length;generalize hnn:rows.length=n at *;simp only[aB,bZ]at *
   (refine aj.iy func68 rfl zo zo rfl hA hF ?_;simp only[ntmps68,results68,ae0,aeg,Nat.reduceAdd,Nat.reduceSub,List.replicate_succ,List.replicate_zero,afz,afy])
   (refine bc ?_;intro K hK K hK K hK)
   ((iterate 3 revert K);refine lG CN ?_;intro K hK K hK)
   (revert K;revert K;refine lG CL ?_;intro K hK K hK)
   (revert K;revert K;refine kE CS ?_;intro K hK K hK)
   (revert K;revert K;refine CG CP eZ ?_;intro K hK)
   refine aN (ι:=Nat) 19 (λi=>[(11,.v (.int .i64 i))]) (λi=>yW x labs (.v (.slice none 0 0)) (.v (.slice none 0 0)) [some ⟨3,1,true,aT [0]⟩,some ⟨3,1,true,ni (List.replicate i (-1)) n⟩]) (λi=>n-i) (λi=>i<=n) 0 (aen _) ?_ ?_
   ·simp only[yW,List.replicate_zero];refine ab (bF ?_) (bF ?_) ar
    all_goals first|rfl|exact⟨rfl,rfl⟩
   ·intro i hi K hK;simp only[yW];have eW:=ae (k:=i) zd
    (revert K;revert K;refine bc ?_;intro K hK K hK K hK)
    refine cn.part (λh=>?_) (λh=>?_)
    ·have W:i<n:=by replace h:=cq h;omega
     have lA:(List.replicate i (-1:Int)).length=i:=List.length_replicate;have eL0:(ni (List.replicate i (-1:Int)) n).length=n:=k9 zd;have gZ:=p9 lA W;have sQ:=tX (-1) lA W;rw[<-List.replicate_succ']at sQ
     ((iterate 3 revert K);refine yr (pt h eL0 gZ sQ) ?_)
     refine aG eW ?_;refine aw.mk (i+1) zd zd ?_;simp only[yW];exact ab ar ar ar
    ·have hin:i=n:=by replace h:=cq h;omega
     rw[hin,MK part];have gN:=yU (part:=part) (order:=[]) hp0;have sN:=FP (part:=part) (order:=[]) (n:=n) (t:=0) rfl hp0;simp only[aeg,afy,Int.natCast_zero]at sN;have lN:=yV part [] n
     ((iterate 3 revert K);refine yr (pt eP0 lP gN sN) ?_;intro K hK)
     refine aN (ι:=B7) 19 (λst=>[(9,.vec 2 st.order.length),(12,.v (.int .i64 st.rows.length)),(13,.undef),(14,.undef)]) (λst=>yW x labs (.v (.slice none 0 0)) (.v (.slice none 0 0)) [some ⟨3,1,true,aT st.order⟩,some ⟨3,1,true,r6 part st.order n⟩]) (λst=>n+1-st.rows.length) (λst=>Lk rows part st∧pj rows ends part (n+1-st.rows.length) st=L) q0 ⟨KL rows part zd,hLd.symm⟩ ?_ ?_
     ·simp only[yW,q0];refine ab (bF ?_) ar ar
      all_goals first|rfl|exact⟨rfl,rfl⟩
     ·rintro st ⟨hok,q⟩ K hK;simp only[yW];have hle:=hok.le;have hlt':=hok.lt;rw[hnn]at hlt';have hol:=mW part hok.nd hlt';have U:=sZ st.order
      (revert K;revert K;refine aG U ?_;intro K hK K hK K hK)
      refine cn.part (λh2=>?_) (λh2=>?_)
      ·have W:st.rows.length<st.order.length:=by replace h2:=cq h2;omega
       have hcu:fC st<n:=hlt' _ (bK W);rw[show n+1-st.rows.length=(n-st.rows.length)+1 by omega,pj,if_pos W]at q;have Y:=hT _ (bK (d:=[]) (show fC st<rows.length by omega));have FO:=Xa (part:=part) (row:=rows.getD (fC st) []) hok.nd hlt' Y;have hfin:=UI (row:=rows.getD (fC st) []) part st.order hnd (hsub _ (bK (d:=[]) (show fC st<rows.length by omega)))
       ((iterate 3 revert K);refine aG h2 ?_;intro K hK K hK K hK)
       refine aN (ι:=Nat) 19 (λk=>[(9,.vec 2 (Jj part (rows.getD (fC st) []) (labs.take k) st.order).length),(13,.v (.int .i64 k)),(14,.undef)]) (λk=>yW x labs (.v (.slice none 0 0)) (.v (.slice none 0 0)) [some ⟨3,1,true,aT (Jj part (rows.getD (fC st) []) (labs.take k) st.order)⟩,some ⟨3,1,true,r6 part (Jj part (rows.getD (fC st) []) (labs.take k) st.order) n⟩]) (λk=>labs.length-k) (λk=>k<=labs.length) 0 (aen _) ?_ ?_
       ·simp only[yW,List.take_zero,Jj,List.foldl_nil];refine ab (bF ?_) ar ar
        all_goals first|rfl|exact⟨rfl,rfl⟩
       ·intro k hk K hK;simp only[yW];have eWk:=ae (k:=k) zd;obtain⟨f1,f2,t0,f3⟩:=FO (labs.take k);have hol2:=mW part f1 f2
        ((iterate 4 revert K);refine bc ?_;iterate 5 intro K hK)
        refine cn.part (λO=>?_) (λO=>?_)
        ·have H:k<labs.length:=by replace O:=cq O;omega
         have A:=Ge part (rows.getD (fC st) []) (labs.take k) labs[k] st.order;rw[<-agD H]at A;have eV:=tV (rows.getD (fC st) []) k H;have eTq:=eT _ hcu;have eLq:=tL (rows.getD (fC st) [])
         have hcq:(Jj part (rows.getD (fC st) []) (labs.take k) st.order).getD st.rows.length 0=fC st:=by rw[f3,dX W];rfl
         generalize hoo:Jj part (rows.getD (fC st) []) (labs.take k) st.order=oo at *
         have hlo:st.rows.length<oo.length:=by rw[f3,aem];omega
         have eO:=pG hlo;rw[hcq]at eO;have lO:=sZ oo;have lNo:=yV part oo n
         cases hq:look (rows.getD (fC st) []) labs[k]with
         |none=>
          rw[hq]at eV A;simp only at eV;rw[DI]at A
          ((iterate 5 revert K);refine aG (Me O eO lO eTq eLT eLq eV) ?_)
          refine YZ ?_;refine aG eWk ?_;refine aw.mk (k+1) zd zd ?_;simp only[yW,A];exact ab ar ar ar
          all_goals first|rfl|exact⟨rfl,rfl⟩
         |some t=>
          rw[hq]at eV A;simp only at eV;have htn:t<n:=Y _ (lL hq);have ePt:=pG (l:=part) (i:=t) zd;have hpt:=hpl t htn;have gNt:=yU (part:=part) (order:=oo) hpt;have d0:decide ((0:Int)<=(t:Int))=true:=b0;rw[DI]at A
          cases hp:kY part oo (part.getD t 0)with
          |some j=>
           rw[hp]at A;simp only at A;rw[QP,hp]at gNt;simp only at gNt;have d1:decide ((j:Int)<0)=false:=bi
           ((iterate 5 revert K);refine aG (Me O eO lO eTq eLT eLq eV) ?_;iterate 7 intro K hK)
           ((iterate 7 revert K);refine cw (nU d0 d1 ePt lP gNt lNo) ?_)
           refine aG eWk ?_;refine aw.mk (k+1) zd zd ?_;simp only[yW,A];exact ab ar ar ar
           all_goals first|rfl|exact⟨rfl,rfl⟩
          |none=>
           rw[hp]at A;simp only at A;have sNt:=FP hp hpt;rw[QP,hp]at gNt;simp only at gNt
           ((iterate 5 revert K);refine aG (Me O eO lO eTq eLT eLq eV) ?_;iterate 7 intro K hK)
           ((iterate 7 revert K);refine CB (nU d0 ePt lP gNt lNo sNt) ?_)
           refine aG eWk ?_;refine aw.mk (k+1) zd zd ?_;simp only[yW,A,LY,aem,agz];exact ab ar ar ar
           all_goals first|rfl|exact⟨rfl,rfl⟩
        ·have hkl:k=labs.length:=by replace O:=cq O;omega
         have hfk:Jj part (rows.getD (fC st) []) (labs.take k) st.order=(gj rows ends part st).order:=by
          rw[hkl,agE];exact hfin
         have hnr:(gj rows ends part st).rows.length=st.rows.length+1:=by rw[gj];simp only[aem,agz]
         have hnok:=tP rows ends part (by rw[hnn];exact hT) hok W;rw[hfk];generalize gj rows ends part st=st2 at *;have eW2:=ae (k:=st.rows.length) zd
         ((iterate 5 revert K);refine bc ?_)
         refine aG eW2 ?_
         refine aw.mk st2 ⟨hnok,?_⟩ ?_ ?_
         ·rw[hnr,show n+1-(st.rows.length+1)=n-st.rows.length by omega];exact q
         ·show n+1-st2.rows.length<n+1-st.rows.length;omega
         ·simp only[yW,hnr];exact ab ar ar ar
          all_goals first|rfl|exact⟨rfl,rfl⟩
      ·have hge: ¬st.rows.length<st.order.length:=by replace h2:=cq h2;omega
       rw[show n+1-st.rows.length=(n-st.rows.length)+1 by omega,pj,if_neg hge]at q
       have hlo:st.order.length=L.rows.length:=by rw[ql,q]
       rw[q]at hok hol hlt'⊢;have u:L.order.length=L.rows.length:=ql.symm;rw[u]at hol;clear q hlo hge h2 hle U;have U:=sZ L.order
       ((iterate 3 revert K);refine aG (q9 U u) ?_;intro K hK)
       refine cn.part (λh2=>?_) (λh2=>?_)
       ·have h32:32<L.rows.length:=by replace h2:=cq h2;omega
        have V:=hv1 h32
        (revert K;refine bc ?_)
        rw[<-V];exact bC.ck ⟨bC.v _,bC.v _,trivial⟩
       ·have h32: ¬ 32<L.rows.length:=by replace h2:=cq h2;omega
        have V:=hv2 h32
        have Y:∀i(h:i<L.rows.length),∀k(hk:k<labs.length),∀(t:Option Nat),look (rows.getD (L.order.getD i 0) []) labs[k]=t->(iU labs (L.rows.getD i []))[k]?=some (match t with|some t=>QP part L.order (part.getD t 0)|none=> -1):=λi hi k hk t ht=>by
         rw[Nv (labs:=labs) qo qw hi,aeu,iU,aeu,aes hk,Option.map_some,Option.map_some,ht]
         cases t with
         |none=>rfl
         |some t=>
          simp only[show ¬((t:Int)<0) by omega,if_false,Int.toNat_natCast,QP];cases kY part L.order (part.getD t 0)<;>rfl
        (revert K;refine dG 27 ?_;intro K hK K hK)
        refine bn (dS (k:=1) (i:=0) (j:=1) 56 1 zs rfl (agT _) rfl rfl) zo ?_;simp only[afH,afG,ae0,aeg,Nat.reduceAdd,afz,afy];refine bn (dS (k:=1) (i:=0) (j:=2) 4 1 zs rfl (agT _) rfl rfl) zo ?_;simp only[afH,afG,ae0,aeg,Nat.reduceAdd,afz,afy];have eZm:=tY labs.length
        (revert K;revert K;refine bc ?_;intro K hK)
        refine aN (ι:=Nat) 19 (λi=>[(13,.undef),(14,.undef),(15,.v (.int .i64 i)),(16,.undef),(17,.undef),(18,.undef)]) (λi=>yW x labs (.vec 4 i) (.vec 5 i) [some ⟨3,1,true,aT L.order⟩,some ⟨3,1,true,r6 part L.order n⟩,some ⟨56,1,true,fq ((L.rows.take i).map (iU labs))⟩,some ⟨4,1,true,dF (L.ends.take i)⟩]) (λi=>L.rows.length-i) (λi=>i<=L.rows.length) 0 (aen _) ?_ ?_
        ·simp only[yW];refine ab (bF ?_) (bF ?_) ar
         all_goals first|rfl|exact⟨rfl,rfl⟩
        ·intro i hi K hK;simp only[yW];have eWi:=ae (k:=i) zd
         (revert K;revert K;refine aG (q9 U u) ?_;intro K hK K hK K hK)
         refine cn.part (λO=>?_) (λO=>?_)
         ·have hil:i<L.rows.length:=by replace O:=cq O;omega
          have hoi:L.order.getD i 0<n:=hlt' _ (bK zd);have eOi:=pG (l:=L.order) (i:=i) zd;have eTq:=eT _ hoi;have eLq:=tL (rows.getD (L.order.getD i 0) []);have hqT:=hT _ (bK (d:=[]) (show L.order.getD i 0<rows.length by omega));have hri:=Y i hil;have lR:(iU labs (L.rows.getD i [])).length=labs.length:=fD _ _;generalize hRi:iU labs (L.rows.getD i [])=Ri at *
          ((iterate 3 revert K);refine aG eZm ?_;iterate 4 intro K hK)
          refine aN (ι:=Nat) 19 (λk=>[(17,.v (.int .i64 k)),(18,.undef)]) (λk=>yW x labs (.vec 4 i) (.vec 5 i) [some ⟨3,1,true,aT L.order⟩,some ⟨3,1,true,r6 part L.order n⟩,some ⟨56,1,true,fq ((L.rows.take i).map (iU labs))⟩,some ⟨4,1,true,dF (L.ends.take i)⟩,some ⟨3,1,true,ni (Ri.take k) labs.length⟩]) (λk=>labs.length-k) (λk=>k<=labs.length) 0 (aen _) ?_ ?_
          ·simp only[yW,List.take_zero];refine ab (bF ?_) ar ar
           all_goals first|rfl|exact⟨rfl,rfl⟩
          ·intro k hk K hK;simp only[yW];have eWk:=ae (k:=k) zd
           have lRk:(Ri.take k).length=k:=by rw[ahi];omega
           have eLr:(ni (Ri.take k) labs.length).length=labs.length:=k9 zd
           ((iterate 5 revert K);refine aG eLr ?_;iterate 6 intro K hK)
           refine cn.part (λh4=>?_) (λh4=>?_)
           ·have H:k<labs.length:=by replace h4:=cq h4;omega
            have g0:=p9 (n:=labs.length) lRk H;have s0:=tX (n:=labs.length) (-1) lRk H;have eL1:(ni (Ri.take k++[-1]) labs.length).length=labs.length:=k9 (by rw[aem,agz];omega);have g1:=DJ (n:=labs.length) (-1) lRk;have s1:=λv=>zq (n:=labs.length) (-1) v lRk;have eV:=tV (rows.getD (L.order.getD i 0) []) k H;have A:Ri.take (k+1)=Ri.take k++Ri[k]?.toList:=List.take_add_one
            cases hq:look (rows.getD (L.order.getD i 0) []) labs[k]with
            |none=>
             rw[hq]at eV;simp only at eV;rw[hri k H _ hq]at A;simp only[ahj]at A
             repeat(first|(with_reducible first|refine bA.up ?_|refineλ(K:AK)hK=>?_|refine wD ?_|refine au zs ?_|refine ay zs ?_|(refine hK _ ?_;clear hK K))|simp only[go_sem,h4,eLr,g0,s0,eL1,List.drop_succ_cons,List.drop_zero]|with_reducible refine wA ?_|clear hK K)
             ((iterate 8 revert K);refine aG (gB9 eOi U u O eTq eLT eLq eV h4) ?_)
             refine aG eWk ?_;refine aw.mk (k+1) zd zd ?_;simp only[yW,A];exact ab ar ar ar
             all_goals first|rfl|exact⟨rfl,rfl⟩
            |some t=>
             rw[hq]at eV;simp only at eV;rw[hri k H _ hq]at A;simp only[ahj]at A
             have htn:t<n:=by have:=hqT _ (lL hq);omega
             have ePt:=pG (l:=part) (i:=t) zd;have hpt:=hpl t htn;have gNt:=yU (part:=part) (order:=L.order) hpt;have lNo:=yV part L.order n;have d0:decide ((0:Int)<=(t:Int))=true:=b0
             repeat(first|(with_reducible first|refine bA.up ?_|refineλ(K:AK)hK=>?_|refine wD ?_|refine au zs ?_|refine ay zs ?_|(refine hK _ ?_;clear hK K))|simp only[go_sem,h4,eLr,g0,s0,eL1,List.drop_succ_cons,List.drop_zero]|with_reducible refine wA ?_|clear hK K)
             ((iterate 8 revert K);refine aG (gB9 eOi U u O eTq eLT eLq eV h4) ?_;iterate 6 intro K hK)
             ((iterate 6 revert K);refine yr (Y0 d0 ePt lP gNt lNo eL1 g1 s1) ?_)
             refine aG eWk ?_;refine aw.mk (k+1) zd zd ?_;simp only[yW,A];exact ab ar ar ar
             all_goals first|rfl|exact⟨rfl,rfl⟩
           ·have hkl:k=labs.length:=by replace h4:=cq h4;omega
            have eTk:Ri.take k=Ri:=by rw[hkl, <- lR,agE]
            rw[eTk,xo lR]
            have lRm:(Ri.map encI).length=labs.length:=by rw[agv,lR]
            ((iterate 6 revert K);refine dG 38 ?_;iterate 4 intro K hK)
            refine bn (fP 16 6 rfl rfl rfl lRm) zo ?_;simp only[afH,afG];have eEi:=AJ ends (i:=L.order.getD i 0) zd
            have eLi:fq ((L.rows.take i).map (iU labs))++[[AV.aA 1 (Ri.map encI) labs.length]]=fq ((L.rows.take (i+1)).map (iU labs)):=by
             rw[agD hil,agN,fq,fq,agN, <- lR, <- hRi,aeS,aes hil];rfl
            have hLe:L.ends.length=L.rows.length:=qo.ends
            have eEn:dF (L.ends.take i)++[[AV.v (.bool (ends.getD (L.order.getD i 0) false))]]=dF (L.ends.take (i+1)):=by
             rw[<-qw.Ii i hil,agD (show i<L.ends.length by omega),dF,dF,agN,aeS,aes (show i<L.ends.length by omega)];rfl
            have lLi:(fq ((L.rows.take i).map (iU labs))).length=i:=by rw[gM,agv,ahi];omega
            have lEi:(dF (L.ends.take i)).length=i:=by rw[jG,ahi];omega
            ((iterate 4 revert K);refine Pn 39 eLi lLi ?_;intro K hK K hK K hK)
            refine bG [13,16] [] za zo ?_
            ((iterate 3 revert K);refine ak (Y0 eOi U u O eEi eLE eEn lEi) ?_)
            refine aG eWi ?_;refine aw.mk (i+1) zd zd ?_;simp only[yW];exact ab ar ar ar
            all_goals first|rfl|exact⟨rfl,rfl⟩
         ·have hin:i=L.rows.length:=by replace O:=cq O;omega
          have hLe:L.ends.length=L.rows.length:=qo.ends
          have e1:L.rows.take i=L.rows:=by rw[hin,agE]
          have e2:L.ends.take i=L.ends:=by rw[hin, <- hLe,agE]
          rw[e1,e2,hin]
          have l1:(fq (L.rows.map (iU labs))).length=L.rows.length:=by rw[gM,agv]
          have l2:(dF L.ends).length=L.rows.length:=by rw[jG,hLe]
          ((iterate 3 revert K);refine dG 40 ?_;intro K hK)
          refine bn (fL (k:=1) (i:=0) (j:=1) zs rfl (agT _) rfl rfl rfl rfl l1) zo ?_;simp only[afH,afG];refine bn (fL (k:=1) (i:=0) (j:=2) zs rfl (agT _) rfl rfl rfl rfl l2) zo ?_;simp only[afH,afG]
          (revert K;refine bc ?_)
          rw[<-V];simp only[sb,bZ];refine bC.ck ⟨bC.ptr (ob:=⟨139,3,false,[[.aA 1 (labs.map encS) labs.length,.aA 1 (fq (L.rows.map (iU labs))) L.rows.length,.aA 1 (dF L.ends) L.rows.length]]⟩) rfl rfl rfl (Nat.succ_ne_zero 2) ?_,bC.v _,trivial⟩;exact⟨bC.Ag (bz 0 _),bC.Ag (oT 0 _),bC.Ag (qg 0 _),trivial⟩
def D5(A:o8)(E:IR):AV:=if e9 E=0 then .ck [.vp (sb A),.v (.int .i64 0)]else .ck [.v (.pointer none),.v (.int .i64 (e9 E))]
theorem R9(x:Ex)(e:Int)(q:e≠0)(E:IR)(C:aj prog 68 [.agg (aP x)] (.ck [.v (.pointer none),.v (.int .i64 e)])):aj prog 36 [.agg (aP x),.aA 5 (E.map aU) E.length] (.ck [.v (.pointer none),.v (.int .i64 e)]):=by
 have z0:(e !=0)=true:=by simp[q]
 rw[aB]at C⊢;refine gE func36 ntmps36 results36 ?_
 (refine ag ?_;intro K hK K hK)
 (revert K;revert K;refine dA C z0 ?_)
 (refine iE.of 40 rfl ?_;simp only[go_sem])
theorem Vc(x:Ex)(A:o8)(E:IR)(C:aj prog 68 [.agg (aP x)] (.ck [.vp (sb A),.v (.int .i64 0)]))(hE:∀e∈E,JJ e)(hl:E.length<=100000):aj prog 36 [.agg (aP x),.aA 5 (E.map aU) E.length] (D5 A E):=by
 have eN:(E.map aU).length=E.length:=zk
 have hw:=xu;have q:∀n,aQ n (sb A)=true:=λn=>xu n A;have U:∃R,R=e9 E:=⟨_,rfl⟩;obtain⟨R,U⟩:=U;rw[D5, <- U];generalize sb A=V at *;rw[aB]at C⊢
 have hF:(if R=0 then AV.ck [.vp V,.v (.int .i64 0)]else .ck [.v (.pointer none),.v (.int .i64 R)]).wf 0=true:=by
  split<;>simp only[AV.wf,aQ,q,agp]
 generalize u:(if R=0 then AV.ck [.vp V,.v (.int .i64 0)]else .ck [.v (.pointer none),.v (.int .i64 R)])=rv at hF⊢
 (refine aj.enter func36 rfl zo zo rfl (by simp only[go_sem,aQ,AV.wf,agp,afe,afi,hF,df]) (by simp only[go_sem,aQ,AV.wf,bz,agp,afe,afi,hF,df]) ?_;simp only[ntmps36,results36,ae0,aeg,Nat.reduceAdd,Nat.reduceSub,afJ,afK,afz,afy])
 (refine ag ?_;intro K hK K hK)
 (revert K;revert K;refine aM C ?_;intro K hK)
 refine aZ (ι:=Nat) 9 (λk=>[(8,.v (.int .i64 (k:Nat))),(9,.undef)]) (λk=>E.length-k) (λk=>k<=E.length∧e9 (E.drop k)=R) 0 ⟨Nat.zero_le _,U.symm⟩ ?_ ?_
 ·refine ab (bF ?_) ar ar
  all_goals exact⟨q _,rfl⟩
 ·rintro k ⟨hk,H⟩ K hK
  rcases aei k E.length with h|h
  ·have d1:decide ((k:Int)<(E.length:Int))=true:=b0;have eG:=qx h;have ws:=ae (k:=k) zd;have C6:=LR _ (hE _ (List.getElem_mem h));rw[ER h]at H;simp only[aU]at C6
   (revert K;revert K;refine ak (mQ d1 eG eN) ?_;iterate 5 intro K hK)
   refine ah.one C6 ?_
   by_cases O:nR E[k]≠0
   ·have W:(nR E[k] !=0)=true:=by simpa using O
    rw[if_pos O]at H;rw[if_neg (by rw[<-H];exact O)]at u
    ((iterate 5 revert K);refine ak W ?_)
    rw[<-u,H]
    (refine iE.of 40 rfl ?_;simp only[go_sem])
   ·have W:(nR E[k] !=0)=false:=by simpa using O
    rw[if_neg O]at H
    ((iterate 5 revert K);refine fb W ws ?_)
    refine aw.mk (k+1) ⟨h,H⟩ (show E.length-(k+1)<E.length-k by omega) ?_;refine ab (bF ?_) ar ar
    all_goals exact q _
  ·have Y:k=E.length:=zd
   have d1:decide ((k:Int)<(E.length:Int))=false:=bi;rw[Y,List.drop_length,e9]at H;rw[if_pos H.symm]at u
   (revert K;revert K;refine ak d1 ?_)
   rw[<-u];refine iE.of 40 rfl ?_;simp only[go_sem,q]
section
variable {D:Nat->Prop} {nu:EQ} {o:AC} {w:World} {P:Program}
def aa.GW(ob:aa)(k:Nat):aa:={ob with rows:=ob.rows.take k++List.replicate (ob.rows.length-k) (List.replicate ob.z .undef)}
theorem Is(h:RO D nu o w){id k:Nat}{ob:aa}(ho:o[id]?=some (some ob))(O:ob.fc=true)(hk:k<=ob.rows.length){xs:Id}(hl:xs.length=(ob.rows.length-k)*ob.z)(h1:∀v∈xs,v.oneCell'=true){b:Nat}(hb:cW (nu id ob.hl)=some b) :
  ∃w',(storeCells ⟨b,k*ob.z,none⟩ xs).run P w=.ok () w'∧cf nu o w nu (o.set id (some (ob.GW k))) w'∧RO D nu (o.set id (some (ob.GW k))) w':=by
 have hhl:ob.hl=ob.rows.length:=by rw[aa.hl,O,if_pos rfl]
 have hdl:(ob.GW k).rows.length=ob.rows.length:=by grind[aa.GW]
 have hh:ob.hl=(ob.GW k).hl:=by rw[hhl,aa.hl,show(ob.GW k).fc=true from O,if_pos rfl,hdl]
 rcases h.obj id ob ho with⟨e1,e2,e3⟩|⟨g,cur,A⟩|⟨g,es,cl,hmp⟩
 rotate_left 2
 ·rw[hmp.fc]at O;cases O
 ·rw[hhl,e2,aeg,e3]at hb;cases hb
 ·have hbg:b=g:=by have:=A.qq;grind
  subst hbg;obtain⟨cap,c1,c2,c3,c4⟩:=A.vec O;have hm1:ob.rows.length*ob.z<=cap*ob.z:=aeo _ c2
  have hm2:k*ob.z+(ob.rows.length-k)*ob.z=ob.rows.length*ob.z:=by rw[<-Nat.add_mul];grind
  have hst:=run_storeCells_at P b (k*ob.z) ob.T xs 0 cur w A.ez zd h1
  have hcs:(cur.toList.take (k*ob.z+0)++xs++cur.toList.drop (k*ob.z+0+xs.length)).toArray.size=cur.size:=ahn
  generalize hcu:(cur.toList.take (k*ob.z+0)++xs++cur.toList.drop (k*ob.z+0+xs.length)).toArray=cu at *;have W:∀q,q≠b->(w.setRow b cu).heap[q]?=w.heap[q]? :=λq hq=>setRow_other w b q _ hq
  have hsz:(w.setRow b cu).heap.size=w.heap.size:=by simp_all
  have hm:=kp (nu:=nu) (o:=o) (w:=w) (w':=w.setRow b cu) (ob':=ob.GW k) ho hh.symm A.b8 rfl rfl rfl hsz W
  have hin:∀(i j:Nat)x,i<ob.rows.length->j<ob.z->cu[i*ob.z+j]?=some x->(i<k∧cur[i*ob.z+j]?=some x)∨(k<=i∧x∈xs):=λi j x hi hj hx=>by
   have hi2:(i+1)*ob.z<=ob.rows.length*ob.z:=aeo _ hi;rw[Nat.add_mul,Nat.one_mul]at hi2
   have hlt:(cur.toList.take (k*ob.z+0)).length=k*ob.z:=ahn
   rw[<-hcu,List.getElem?_toArray,List.append_assoc]at hx
   rcases aei i k with q|q
   ·have hi3:(i+1)*ob.z<=k*ob.z:=aeo _ q
    grind
   ·have hi3:k*ob.z<=i*ob.z:=aeo _ q
    grind
  have u:∀(i:Nat)row,(ob.GW k).rows[i]?=some row->i<ob.rows.length∧row.length=ob.z∧(i<k->ob.rows[i]?=some row)∧(k<=i->∀c∈row,c=.undef):=λi row hi=>by
   have hil:i<ob.rows.length:=by grind
   have htl:(ob.rows.take k).length=k:=ahn
   simp only[aa.GW]at hi
   rcases aei i k with q|q
   ·rw[List.getElem?_append_left zd,List.getElem?_take_of_lt q]at hi;exact⟨hil,A.row i row hi,λ_=>hi,λh=>zd⟩
   grind
  have Y:∀{i:Nat}{row:C5}{j:Nat}{c:AV},(ob.GW k).rows[i]?=some row->row[j]?=some c->j<ob.z:=λh1 h2=>by
   grind
  refine⟨_,hst,hm,sg h ho hh.symm A.b8 hm W (cur:=cu) ⟨?_,A.o4,λe=>?_,λ_=>⟨cap,by grind,zd,c3,by rw[hcs];exact c4⟩,A.z,λi row hi=>(u i row hi).2.1,λi j row c x V H q3=>?_,λi j row c x V H q3=>?_⟩⟩
  ·exact setRow_heap w b cur _ ob.T (0,0) A.ez
  ·rw[show(ob.GW k).fc=true from O]at e;cases e
  ·obtain⟨r1,r2,r3,r4⟩:=u i row V
   rcases hin i j x r1 (Y V H) q3 with⟨U,a2⟩|⟨U,a2⟩
   ·exact(A.cell i j row c x (r3 U) H a2).mono hm (λ_ _ h=>h)
   ·rw[r4 U c (List.mem_of_getElem? H)];exact .undef _
  ·obtain⟨r1,r2,r3,r4⟩:=u i row V
   rcases hin i j x r1 (Y V H) q3 with⟨U,a2⟩|⟨U,a2⟩
   ·exact A.one i j row c x (r3 U) H a2
   grind
def NU(P:Program)(o1 o2:Oper)(s:AS)(o':AC):Prop:=∀(f:Fr)(D:Nat->Prop)(nu:EQ)(a:Act)(w:World),RS f D nu s a w->∃v1 v2 w',(execOp a.eval o1).run P w=.ok (.value v1) w∧(execOp (a.put o1.dst v1).eval o2).run P w=.ok (.value v2) w'∧cf nu s.o w nu o' w'∧RO D nu o' w'
theorem UO{all:GE}{o1 q:Oper}{s:AS}{Q:AS->Prop}(o':AC)(h1:o1.guard=none)(h2:q.guard=none)(h:NU P o1 q s o')(k:Q ((s.put o1.dst .undef s.o).put q.dst .undef o')):pw P all [o1,q] s Q:=λf m rest R V a w D nu hcalm U u W=>by
 have H:Region.wanted o1 (yielded all.toArray a.tmps)=true:=by grind[Region.wanted]
 simp only[afz,afy,wpListIn];obtain⟨v1,v2,w',e1,Y,m1,m2⟩:=h f D nu a w u
 have A:Region.wanted q (yielded all.toArray (a.put o1.dst v1).tmps)=true:=by grind[Region.wanted]
 rw[if_pos H];refine⟨λf _=>trivial,?_⟩;rw[Oper.semAt_eq _ _ o1 (hcalm o1 zk),e1];show wpListIn (WF f.r) 9 P all.toArray R (q::rest) (a.put o1.dst v1) w;simp only[wpListIn];rw[if_pos A];refine⟨λf _=>trivial,?_⟩;rw[Oper.semAt_eq _ _ q (hcalm q zk),Y];have O:=u.put (.refl nu s.o w) u.ro (.undef v1) o1.dst;exact W D ((s.put o1.dst .undef s.o).put q.dst .undef o') _ w' nu (m.own U u.ro m1 m2) (O.put m1 m2 (.undef v2) q.dst) k
theorem S5{n0 id:Nat}{s:AS}{l:GE}{Q:bg->AS->Prop}(n:Nat){oa ob:Oper}(V:l[n]?=some oa)(U:l[n+1]?=some ob)(q:dO l.toArray=true)(O:oa.guard=none)(H:ob.guard=none)(h:jT P l (l.take n) s (λs1=>∃o',NU P oa ob s1 o'∧jT P l (l.drop (n+2)) ((s1.put oa.dst .undef s1.o).put ob.dst .undef o') (Q .normal))):cD P n0 (.region id l.toArray false) s Q:=by
 refine J4 q ?_;obtain⟨Y,rfl⟩:=aek.1 V;obtain⟨W,rfl⟩:=aek.1 U
 have e:l.take n++([l[n],l[n+1]]++l.drop (n+2))=l:=by
  simp_all
 have key:pw P l (l.take n++([l[n],l[n+1]]++l.drop (n+2))) s (Q .normal):=DO ((uc h).mono (λs1⟨o',A,u⟩=>DO (UO o' O H A (uc u))))
 grind
theorem OI{oa ob:Oper}{s:AS}{T:TypeId}{x h:Operand}{id len t:Nat}{b:aa}{kk:IntKind}{k:Nat}{zv:Value}{e:TypeId}{c:Call}(hop:oa.op=.slice T x (some h) none none)(hd:oa.dst=some t)(H:ob.op=.call c)(hc:c.callee=.builtin .clear)(hca:c.args = #[.tmp t])(hct:c.argTypes = #[T])(hx:s.ev x=.vec id len)(hh:s.ev h=.v (.int kk k))(ho:s.o[id]?=some (some b))(q:b.fc=true)(hl:b.rows.length=len)(W:P.underlying T=some (.slice e))(hz:Rz P T=some b.z)(O:∀w,(zeroValue e).run P w=.ok zv w)(hzc:zv.cells.size=b.z)(hz1:zv.cells.all (λv=>v.oneCell')=true)(hk:k<len)(ht:t<s.t.length) :
  NU P oa ob s (s.o.set id (some (b.GW k))):=λf D nu a w A=>by
 subst hl
 have hhl:b.hl=b.rows.length:=by rw[aa.hl,q,if_pos rfl]
 rcases A.ro.obj id b ho with⟨e1,e2,e3⟩|⟨g,cur,hr⟩|⟨g,es,cl,hmp⟩
 ·grind
 rotate_left 1
 ·rw[hmp.fc]at q;cases q
 obtain⟨cap,c1,c2,c3,c4⟩:=hr.vec q;have ex:=A.ev x;rw[hx]at ex
 have ex':a.eval x=.slice (some ⟨g,0,none⟩) b.rows.length cap:=by
  rw[<-c1];generalize a.eval x=y at ex;cases ex;rfl
 have eh:a.eval h=.int kk k:=(A.ev h).RP hh;obtain⟨e',u,hsz⟩:=nt hz;rw[W]at u;cases u;have hbd:=dr (P:=P) (w:=w) (b:=true) (len:=b.rows.length) (cap:=cap) (l:=k) (h:=b.rows.length) (m:=cap) (lo:=some (.int kk k)) (hi:=none) (mx:=none) (.inr ⟨kk,rfl⟩) (.inl ⟨rfl,rfl,rfl⟩) (.inl ⟨rfl,rfl⟩) zd c2 (Nat.le_refl _)
 have U:(Builtin.zeroCells zv.cells (b.rows.length-k)).toList.length=(b.rows.length-k)*b.z:=by grind[Builtin.zeroCells]
 obtain⟨w',q1,q2,q3⟩:=Is (P:=P) A.ro ho q (Nat.le_of_lt hk) U (λv V=>by
  simp only[Builtin.zeroCells,Array.mem_toList_iff,Array.mem_map,Array.mem_range]at V
  grind[Nat.mod_lt,Array.all_eq_true]) (b:=g) (by rw[hhl,c1];rfl)
 refine⟨.slice (some ⟨g,k*b.z,none⟩) (b.rows.length-k) (cap-k),.tuple #[],w',?_,?_,q2,q3⟩
 ·simp only[execOp,hop];simp only[Sem.run_bind,aeE,ag7,ex',eh]
  have hck:cap≠k:=zd
  by_cases h0:k*b.z=0<;>simp[Instr.sliceAt,Instr.slice,run_underlying W,hbd,run_sizeOf hsz,Addr.add,hck,h0]
 ·have Y:t<a.tmps.size:=by rw[<-A.tm.len];exact ht
  have ev:(a.put oa.dst (.slice (some ⟨g,k*b.z,none⟩) (b.rows.length-k) (cap-k))).eval (.tmp t)=.slice (some ⟨g,k*b.z,none⟩) (b.rows.length-k) (cap-k):=by
   rw[hd];simp[Act.put,Act.eval,Y]
  obtain⟨n,hn⟩:∃n,b.rows.length-k=n+1:=⟨b.rows.length-k-1,zd⟩;rw[hn]at ev q1;simp[execOp,H,resolve,hc,hca,hct,invoke,builtin,ev,hn,Builtin.clear_,run_underlying W,O,q1]
end
def cX(f:ByteArray)(L:PL):PL:=L.filter (λp=>decide (p.1.1=f))
theorem vV(f:ByteArray)(p:K2×Int):aj prog 40 [.agg (aK p),.vp [.v (.string f)]] (.v (.bool (!decide (p.1.1=f)))):=by
 have e:(p.1.1.toList !=f.toList) = !decide (p.1.1=f):=by
  by_cases h:p.1.1=f
  ·rw[h];simp
  ·have:p.1.1.toList≠f.toList:=λq=>h (toList_inj.1 (by rw[q];simp))
   simp[h,this]
 simp only[aK];rw[<-e];refine gE func40 ntmps40 results40 ?_;refine ag ?_
 rfl
def cj(f:ByteArray):PL->Nat
 | []=>0
 |p::l=>if p.1.1=f then cj f l+1 else 0
theorem uV{f:ByteArray}:∀(L:PL),cj f L<=L.length
 | []=>Nat.le_refl _
 |p::l=>by have:=uV (f:=f) l;rw[cj,ae0];split<;>omega
theorem uW{f:ByteArray}:∀(L:PL)(k:Nat)(h:k<L.length),k<cj f L->L[k].1.1=f
 |p::l,0,_,q=>by rw[cj]at q;split at q;assumption;omega
 |p::l,k+1,h,q=>by
  rw[cj]at q
  split at q
  ·exact uW l k (by simpa using h) zd
  ·omega
theorem AU{f:ByteArray}:∀(L:PL)(h:cj f L<L.length),L[cj f L].1.1≠f
 |p::l,h=>by
  by_cases q:p.1.1=f
  ·have e:cj f (p::l)=cj f l+1:=by rw[cj,if_pos q]
   simp only[e,List.getElem_cons_succ];exact AU l (by rw[e,ae0]at h;omega)
  ·have e:cj f (p::l)=0:=by rw[cj,if_neg q]
   simp only[e,List.getElem_cons_zero];exact q
theorem Kl(f:ByteArray)(L:PL)(hl:L.length<=1000000):aj prog 71 [.aA 3 (L.map aK) L.length,.fn 40 [] [.vp [.v (.string f)]]] (.v (.int .i64 (if cj f L<L.length then(cj f L:Nat)else -1))):=by
 have eN:(L.map aK).length=L.length:=zk
 have hle:=uV (f:=f) L;refine gE func71 ntmps71 results71 ?_
 (refine ag ?_;intro K hK)
 refine aZ (ι:=Nat) 9 (λk=>[(5,.undef),(8,.v (.int .i64 (k:Nat)))]) (λk=>L.length-k) (λk=>k<=cj f L) 0 (Nat.zero_le _) ?_ ?_
 ·refine ab (bF ?_) ar ar
  all_goals rfl
 ·intro k H K hK
  rcases aei k L.length with h|h
  ·have d1:decide ((k:Int)<(L.length:Int))=true:=b0;have eG:=qy h;have ws:=ae (k:=k) zd;have C:=vV f L[k];simp only[aK]at C
   (revert K;revert K;refine ak (mQ d1 eG eN) ?_;iterate 5 intro K hK)
   refine ah.one C ?_
   by_cases A:L[k].1.1=f
   ·have e:(!decide (L[k].1.1=f))=false:=by simp[A]
    have u:k<cj f L:=by
     rcases ahk H with q|q
     ·exact q
     ·subst q;exact absurd A (AU L h)
    ((iterate 5 revert K);refine fb e ws ?_)
    exact aw.mk (k+1) u zd (by exact ab ar ar ar)
   ·have e:(!decide (L[k].1.1=f))=true:=by simp[A]
    have u:k=cj f L:=by
     rcases ahk H with q|q
     ·exact absurd (uW L k h q) A
     ·exact q
    ((iterate 5 revert K);refine ak e ?_)
    rw[if_pos zd,u]
  ·have d1:decide ((k:Int)<(L.length:Int))=false:=bi
   (revert K;revert K;refine ak d1 ?_)
   rw[if_neg zd]
theorem yp{f:ByteArray}:∀(L:PL),cj f L<L.length->L.take (cj f L)=cX f (L.take (cj f L+1))
 |p::l,h=>by
  by_cases q:p.1.1=f
  ·have e:cj f (p::l)=cj f l+1:=by rw[cj,if_pos q]
   have u:cj f l<l.length:=by rw[e,ae0]at h;omega
   have ih:=yp l u;rw[e,List.take_succ_cons,List.take_succ_cons,cX,List.filter_cons_of_pos (by simp[q]),ih];rfl
  ·have e:cj f (p::l)=0:=by rw[cj,if_neg q]
   simp[e,cX,q]
theorem Mc{f:ByteArray}(L:PL)(h:cj f L=L.length):cX f L=L:=
 List.filter_eq_self.2 λp q=>by
  obtain⟨k,u,rfl⟩:=List.mem_iff_getElem.1 q;exact decide_eq_true (uW L k u zd)
theorem OP(f:ByteArray)(L:PL)(hl:L.length<=1000000)(h:cj f L=L.length):bT prog 41 [.vec 0 L.length,.fn 40 [] [.ptr 1 0 1 0 0]] [some ⟨37,3,true,L.map aK⟩,some ⟨9,1,false,[[.v (.string f)]]⟩] (.vec 0 L.length) [some ⟨37,3,true,L.map aK⟩,none]:=by
 have I:=Kl f L hl;rw[h,if_neg (Nat.lt_irrefl _)]at I;refine gF func41 ntmps41 results41 ?_
 (refine ag ?_;intro K hK K hK)
 refine ah.CA I 8 rfl (by simp only[go_sem,Nat.reduceLT,Nat.reduceLeDiff,Nat.reduceEqDiff,agq,agr,and_self]) rfl ?_
 (revert K;revert K;refine ag ?_)
 exact⟨ej,ej,ej⟩
theorem OQ(f:ByteArray)(L:PL)(hl:L.length<=1000000)(h:cj f L<L.length):bT prog 41 [.vec 0 L.length,.fn 40 [] [.ptr 1 0 1 0 0]] [some ⟨37,3,true,L.map aK⟩,some ⟨9,1,false,[[.v (.string f)]]⟩] (.vec 2 (cX f L).length) [none,none,some ⟨37,3,true,(cX f L).map aK⟩]:=by
 have I:=Kl f L hl;rw[if_pos h]at I
 have e0:(((cj f L:Nat):Int) == -1)=false:=zk
 have W:=ae (k:=cj f L) zd;refine gF func41 ntmps41 results41 ?_
 (refine ag ?_;intro K hK K hK)
 refine ah.CA I 8 rfl (by simp only[go_sem,Nat.reduceLT,Nat.reduceLeDiff,Nat.reduceEqDiff,agq,agr,and_self]) rfl ?_
 repeat(first|(with_reducible first|refine bA.up ?_|refineλ(K:AK)hK=>?_|(refine hK _ ?_;clear hK K))|simp only[go_sem,e0,W]|with_reducible refine wA ?_|clear hK K)
 refine aN (ι:=PL×Nat×Nat) 16 (λz=>[(5,.v (.int .i64 (z.2.1:Nat))),(6,.v (.int .i64 (z.2.2:Nat))),(7,.undef)]) (λz=>[some ⟨37,3,true,z.1.map aK⟩,some ⟨9,1,false,[[.v (.string f)]]⟩]) (λz=>L.length-z.2.2) (λz=>z.1.length=L.length∧z.2.1<z.2.2∧z.2.2<=L.length∧z.1.take z.2.1=cX f (L.take z.2.2)∧z.1.drop z.2.2=L.drop z.2.2) (L,cj f L,cj f L+1) ⟨rfl,Nat.lt_succ_self _,h,yp L h,rfl⟩ ?_ ?_
 ·exact ab ar ar ar
  all_goals trace_state
 ·rintro⟨M,i,j⟩ ⟨A,hij,hj,hi,O⟩ K hK;simp only at A hij hj hi O⊢
  have eN:(M.map aK).length=L.length:=by simp[A]
  rcases aei j L.length with q|q
  ·have d1:decide ((j:Int)<(L.length:Int))=true:=b0
   have hMj:M[j]' zd =L[j]:=by
    have:=congrArg (λl=>l[0]?) O
    simp only[List.getElem?_drop,Nat.add_zero]at this;rw[aes zd,aes q]at this;exact Option.some.inj this
   have eG:=qy (l:=M) (i:=j) zd;rw[hMj]at eG;have eGi:=qy (l:=M) (i:=i) zd;have V:=ae (k:=i) zd;have u:=ae (k:=j) zd;have C:=vV f L[j];simp only[aK]at C
   have U:cX f (L.take (j+1))=cX f (L.take j)++if L[j].1.1=f then [L[j]]else []:=by
    rw[cX,cX,agD q,List.filter_append]
    by_cases hc:L[j].1.1=f<;>simp[hc]
   (revert K;revert K;refine ak (mQ d1 eG eN) ?_;iterate 5 intro K hK)
   refine ah.CA C 8 rfl (by simp only[go_sem,Nat.reduceLT,Nat.reduceLeDiff,Nat.reduceEqDiff,agq,agr,and_self]) rfl ?_
   by_cases H:L[j].1.1=f
   ·have e:(!decide (L[j].1.1=f))=false:=by simp[H]
    rw[if_pos H]at U
    ((iterate 5 revert K);refine ak (pt e eG eGi eN) ?_)
    refine fb V u ?_
    refine aw.mk (M.set i L[j],i+1,j+1) ⟨by simp[A],show i+1<j+1 by omega,q,?_,?_⟩ (show L.length-(j+1)<L.length-j by omega) ?_
    ·show(M.set i L[j]).take (i+1)=_;rw[U, <- hi,agD ahn,List.take_set_of_le (Nat.le_refl _),List.getElem_set_self]
    ·show(M.set i L[j]).drop (j+1)=_;rw[List.drop_set_of_lt zd]
     have:=congrArg List.tail O
     simpa using this
    ·have eS:(M.set i L[j]).map aK=(M.map aK).set i [.v (.string L[j].1.1),.v (.string L[j].1.2),.v (.int .i64 L[j].2)]:=by rw[List.map_set];rfl
     have eW:=λn=>bu n (M.set i L[j]);rw[eS]at eW⊢;refine ab ar (bF ?_) ar
     all_goals first|exact eW _|exact⟨rfl,eW _⟩
   ·have e:(!decide (L[j].1.1=f))=true:=by simp[H]
    rw[if_neg H,agn]at U
    ((iterate 5 revert K);refine fb e u ?_)
    refine aw.mk (M,i,j+1) ⟨A,show i<j+1 by omega,q,by rw[U];exact hi,?_⟩ (show L.length-(j+1)<L.length-j by omega) ?_
    ·have:=congrArg List.tail O
     simpa using this
    ·exact ab ar ar ar
     all_goals trace_state
  ·have Y:j=L.length:=zd
   have d1:decide ((j:Int)<(L.length:Int))=false:=bi;rw[Y,List.take_length]at hi
   (revert K;revert K;refine jd 11 d1 ?_;intro K hK)
   have tz:∀w,(zeroValue 37).run prog w=.ok (.agg #[.string ⟨#[]⟩,.string ⟨#[]⟩,.int .i64 0]) w:=λw=>zo
   refine S5 2 rfl rfl zo rfl rfl ?_
   (revert K;refine ag ?_;intro K hK)
   refine⟨_,OI (zv:= .agg #[.string ⟨#[]⟩,.string ⟨#[]⟩,.int .i64 0]) rfl rfl rfl rfl rfl rfl rfl rfl rfl rfl eN zo zo tz rfl zo zd zk,?_⟩;simp only[List.set_cons_zero]
   have eD:((⟨37,3,true,M.map aK⟩:aa).GW i).rows.length=L.length:=by simp[aa.GW,A];omega
   have eT:((⟨37,3,true,M.map aK⟩:aa).GW i).rows.take i=(cX f L).map aK:=by
    have:((M.map aK).take i).length=i:=ahn
    show((M.map aK).take i++_).take i=_;rw[List.take_append_of_le_length zd,List.take_of_length_le zd, <- List.map_take,hi]
   have eF:(cX f L).length=i:=by rw[<-hi];simp;omega
   (revert K;refine dG 12 ?_;intro K hK)
   refine J3 2 rfl zo rfl ?_
   (revert K;refine ag ?_;intro K hK)
   refine⟨_,_,ON rfl rfl rfl rfl rfl eD zo zd,?_⟩;simp only[List.drop_succ_cons,List.drop_zero,eT]
   (revert K;refine ag ?_)
   rw[eF];simp only[aa.GW];exact⟨ej,ej,ej⟩
   all_goals exact bu _ _
theorem Ti(f:ByteArray)(L:PL)(hl:L.length<=1000000):bT prog 41 [.vec 0 L.length,.fn 40 [] [.ptr 1 0 1 0 0]] [some ⟨37,3,true,L.map aK⟩,some ⟨9,1,false,[[.v (.string f)]]⟩] (.vec 2 (cX f L).length) [none,none,some ⟨37,3,true,(cX f L).map aK⟩]:=by
 rcases ahk (uV (f:=f) L)with h|h
 ·exact OQ f L hl h
 ·rw[Mc L h];exact(OP f L hl h).mv (ob:=⟨37,3,true,L.map aK⟩) rfl rfl zk
noncomputable def E7(x:Ex)(E:IR)(f:ByteArray):AV:=if iO x E=0 then .ck [.aA 3 ((cX f (gU x E)).map aK) (cX f (gU x E)).length,.v (.int .i64 0)]else .ck [.v (.slice none 0 0),.v (.int .i64 (iO x E))]
theorem Pu(g:AV)(q:g.wf 0=true):aj prog 71 [.v (.slice none 0 0),g] (.v (.int .i64 (-1))):=by
 (refine aj.enter func71 rfl zo zo rfl (by simp only[go_sem,aQ,AV.wf,agp,afe,afi,q]) (by simp only[go_sem,aQ,AV.wf,bz,agp,afe,afi,q]) ?_;simp only[ntmps71,results71,ae0,aeg,Nat.reduceAdd,Nat.reduceSub,afJ,afK,afz,afy])
 (refine ag ?_;intro K hK)
 refine aZ (ι:=Unit) 9 (λ_=>[]) (λ_=>0) (λ_=>True) () trivial ?_ ?_
 ·refine ab (bF ?_) ar ar
  all_goals exact .inr q
 ·intro _ _ K hK
  (revert K;revert K;exact s8)
theorem OO(g:AV)(q:g.wf 0=true):aj prog 41 [.v (.slice none 0 0),g] (.v (.slice none 0 0)):=by
 have I:=Pu g q
 (refine aj.enter func41 rfl zo zo rfl (by simp only[go_sem,aQ,AV.wf,agp,afe,afi,q]) (by simp only[go_sem,aQ,AV.wf,bz,agp,afe,afi,q]) ?_;simp only[ntmps41,results41,ae0,aeg,Nat.reduceAdd,Nat.reduceSub,afJ,afK,afz,afy])
 (refine ag ?_;intro K hK K hK)
 (revert K;revert K;exact lH I)
theorem V0(x:Ex)(E:IR)(f:ByteArray)(U:x.ok)(u:∀e∈E,xv e)(hl:E.length<=31)(V:∀A,gb x (ct x)=.inl A->AOk A):aj prog 13 [.agg (aP x),.aA 5 (E.map aU) E.length,.v (.string f)] (E7 x E f):=by
 have hL:=Bk x E hl V
 have H:aQ 0 [.agg (aP x),.aA 5 (E.map aU) E.length,.v (.string f)]=true:=by rw[aB];simp only[aQ,AV.wf,df,bI,agp]
 unfold E7
 by_cases O:iO x E=0
 ·obtain⟨A,Y,W,hp⟩:=Ut O;have ok:=V A Y;have NW:=OX x U;rw[IX,Y]at NW;have OV:=Qq x A E NW u zd;rw[tJ,if_pos W]at OV;have PE:=Ei x A E U ok OV W hl;rw[<-hp]at PE;rw[if_pos O];generalize gU x E=L at *;have DE:=Ti f L zd
  have eF:(AV.ck [.aA 3 ((cX f L).map aK) (cX f L).length,.v (.int .i64 0)]).wf 0=true:=by simp only[AV.wf,aQ,bu,agp]
  have eE:aQ 0 [.agg (aP x),.aA 5 (E.map aU) E.length]=true:=by rw[aB];simp only[aQ,AV.wf,df,bI,agp]
  rw[aB]at PE H eE⊢
  (refine aj.iy func13 rfl zo zo rfl H eF ?_;simp only[ntmps13,results13,ae0,aeg,Nat.reduceAdd,Nat.reduceSub,afJ,afK,afz,afy])
  (refine ag ?_;intro K hK K hK)
  refine ah.fr [] PE List.nodup_nil rfl ?_ eE (λk ob h=>by simp at h) ?_
  ·exact(fI _ _ eE).symm
  simp only[fj,afZ,agt,aeE,ag7,aa.bb,bj _ _ (bu 0 _),afy,agn]
  (revert K;revert K;refine ag ?_;intro K hK K hK)
  refine ah.fr [8,1] DE zk ?_ ?_ ?_ ?_ ?_
  ·simp only[afZ,agt,List.getElem?_cons_zero,List.getElem?_cons_succ,aeE,aa.bb,bj _ _ (bu 0 _),cm,bW,AV.bb]
  ·rfl
  ·rfl
  ·intro k ob q
   match k,q with
   |0,q=>cases q;exact bu _ _
   |1,q=>cases q;rfl
   |k+2,q=>simp at q
  simp only[fj,List.set_cons_zero,List.set_cons_succ,afZ,agt,aeE,ag7,aa.bb,bj _ _ (bu 0 _),ae0,aeg,Nat.reduceAdd,afz,afy,agn]
  (revert K;revert K;refine ag ?_)
  exact bC.ck ⟨bC.sj (ob:=⟨37,3,true,(cX f L).map aK⟩) rfl rfl zk (bu _ _),bC.v _,trivial⟩
 ·have PS:=B6 x E U u hl V;rw[tM,if_neg O]at PS;rw[if_neg O];generalize iO x E=c at *;have DN:=OO (.fn 40 [] [.vp [.v (.string f)]]) (by simp only[AV.wf,aQ,agp]);rw[aB]at PS⊢;refine gE func13 ntmps13 results13 ?_
  (refine ag ?_;intro K hK K hK)
  (revert K;revert K;refine aM PS ?_;intro K hK K hK)
  refine ah.CA DN 8 rfl (by simp only[go_sem,Nat.reduceLT,Nat.reduceLeDiff,Nat.reduceEqDiff,agq,agr,and_self]) rfl ?_
  (revert K;revert K;refine ag ?_)
  (refine iE.of 40 rfl ?_;simp only[go_sem])
section
variable {P:Program}
theorem H3{x y:Code}{s:AS}{Q:bg->AS->Prop}(t0:C5)(o0:AC)(ys:kB)(Y:bY x=true)(W:bY y=true)(A:∀(k:Nat)ob,o0[k]?=some (some ob)->bE o0.length ob.rows=true)(k:cD P 0 y ⟨t0,o0,ys⟩ Q)
  (h:cD P 0 x s (λe s'=>e=.normal∧s'.y=ys∧∃ids,ids.Nodup∧ids.map (λi=>s'.o[i]?)=o0.map (λx=>some (x.map (aa.bb (sig ids s'.o.length))))∧pA (sig ids s'.o.length) ids.length s'.t t0)):cD P 0 (.seq x y) s Q:= .inr (λf m D nu a w u hn hm hs q R O hR=>by
 refine wpIn_seq (gK q (f:=f) m u hn x Y s a w D nu f.Z _ _ (λa w h=>O a w h) hm hs h ?_);rintro e D' Z' s' a' w' nu' h1 h2 ⟨rfl,rfl,ids,V,H,U⟩
 have hl:o0.length=ids.length:=by have:=congrArg List.length H;simpa using this.symm
 exact xN ids t0 o0 V H (by rw[<-hl];exact A) U W k (f.wz Z') m D' nu' a' w' u hn h1 h2 q R O hR)
end
section
variable (st:Nat->ByteArray->Option Nat) (tk:Nat->Bool) (em:Bool) (E:IR)
def wM(dl:ByteArray->NL)(i:Nat):PL:=mn (((aJ E).take i).flatMap (λv=>fB tk em (dl v.1.1) v)) []
def tQ(root:ByteArray)(l:NL)(b:PL)(k:Nat):PL:=mn ((l.take k).filterMap (XN tk root)) b
end
section
variable {st:Nat->ByteArray->Option Nat} {tk:Nat->Bool} {em:Bool} {E:IR} {n:Nat}
theorem vD{k:Nat}(u:k<(aJ E).length):(aJ E)[k]=(((aJ E)[k].1.1,(aJ E)[k].1.1),(aJ E)[k].2):=by
 obtain⟨e,_,q|q,_⟩:=GI (E:=E) (k:=(aJ E)[k].1) (τ:=(aJ E)[k].2) (List.getElem_mem u)
 ·refine Prod.ext ?_ rfl;simp only[q]
 ·refine Prod.ext ?_ rfl;simp only[q]
theorem GF{i j:Nat}(u:j<(aJ E).length)(q:i<j):(aJ E)[i].1.1≠(aJ E)[j].1.1:=λh=>by
 have A:=List.pairwise_iff_getElem.1 (Jy E) i j zd u q;rw[congrArg Prod.fst (vD (show i<(aJ E).length by omega)),congrArg Prod.fst (vD u),h]at A;exact ek _ A
theorem M4{dl:ByteArray->NL}{l:NL}{i:Nat}(h:i<(aJ E).length):wM tk em E (λr=>if r=(aJ E)[i].1.1 then l else dl r) (i+1)=tQ tk (aJ E)[i].1.1 l (if em then fG (wM tk em E dl i) (((aJ E)[i].1.1,(aJ E)[i].1.1),(aJ E)[i].2)else wM tk em E dl i) l.length:=by
 have H:((aJ E).take i).flatMap (λv=>fB tk em (if v.1.1=(aJ E)[i].1.1 then l else dl v.1.1) v)=((aJ E).take i).flatMap (λv=>fB tk em (dl v.1.1) v):=by
  rw[List.flatMap_def,List.flatMap_def];refine congrArg List.flatten (List.map_congr_left λv u=>?_);obtain⟨j,A,rfl⟩:=List.mem_iff_getElem.1 u
  have q:j<i:=by simp at A;omega
  rw[List.getElem_take,if_neg (GF h q)]
 rw[wM,agD h,List.flatMap_append,mZ,H,tQ,agE];simp only[List.flatMap_cons,List.flatMap_nil,agn,fB,if_true];rw[mZ];cases em<;>rfl
theorem Ja{root:ByteArray}{l:NL}{b:PL}{k:Nat}(h:k<l.length):tQ tk root l b (k+1)=if tk l[k].1.2 then fG (tQ tk root l b k) ((root,l[k].1.1),l[k].2)else tQ tk root l b k:=by
 rw[tQ,agD h,List.filterMap_append,mZ];simp only[List.filterMap_cons,List.filterMap_nil,XN];cases tk l[k].1.2<;>rfl
theorem OR{l:NL}{root:ByteArray}(q:∀s l t,st s l=some t->t<n)(F:rm st E root l):l.length<=E.length*n:=by
 have h:=Ky F.nd (m:=jz n E) (λx O=>by
  obtain⟨p,V,rfl⟩:=List.mem_map.1 O;have U:=F.ju p V
  have key:∀{τ v s},D8 st E τ root v s->(v,s)∈jz n E:=λh=>by
   cases h with
   |one e s H A W u=>exact j7 q e H 0 _ u
   |more e s t H A W u=>exact j7 q e A s _ u
  exact key U)
 rw[qs,List.length_map]at h;exact h
theorem QT{dl:ByteArray->NL}(q:∀s l t,st s l=some t->t<n)(u:∀root,rm st E root (dl root))(hl:E.length<=31)(hn:n<=32)(i:Nat):(wM tk em E dl i).length<=100000:=by
 have U:=qE (((aJ E).take i).flatMap (λv=>fB tk em (dl v.1.1) v)) [];have W:E.length*n<=31*32:=Nat.mul_le_mul hl hn
 have O:∀l:PL,(l.flatMap (λv=>fB tk em (dl v.1.1) v)).length<=l.length*993:=by
  intro l
  induction l with
  |nil=>simp
  |cons a l ih=>
   have H:=OR q (u a.1.1)
   have A:(fB tk em (dl a.1.1) a).length<=1+(dl a.1.1).length:=by
    rw[fB,aem]
    have:=ahl (λp:Nd×Int=>if tk p.1.2 then some ((a.1.1,p.1.1),p.2)else none) (dl a.1.1)
    cases em<;>simp<;>omega
   rw[List.flatMap_cons,aem,ae0];omega
 have H:=O ((aJ E).take i)
 have A:(aJ E).length<=62:=by
  have:=l5 E E.length (Nat.le_refl _)
  rw[agE]at this;rw[aJ,(cL _).length_eq];omega
 have V:((aJ E).take i).length<=62:=by rw[List.length_take];omega
 simp only[aeg]at U;rw[wM];omega
theorem M3{root:ByteArray}{l:NL}{b:PL}{k:Nat}:(tQ tk root l b k).length<=b.length+l.length:=by
 have A:=qE ((l.take k).filterMap (XN tk root)) b;have u:=ahl (XN tk root) (l.take k)
 have q:(l.take k).length<=l.length:=ahn
 rw[tQ];omega
theorem QS{dl:ByteArray->NL}(q:∀s l t,st s l=some t->t<n)(A:∀e∈E,e.time<=Ay)(u:∀root,rm st E root (dl root)):wM tk em E dl (aJ E).length=pY st tk em n E:=by
 rw[wM,agE,F4];exact Np (wa u) (I5 q A)
end
theorem Ni{V:C5}(x:Ex)(A:o8)(ok:AOk A)(E:IR)(W:aj prog 36 [.agg (aP x),.aA 5 (E.map aU) E.length] (.ck [.vp V,.v (.int .i64 0)]))(C:∀(s:Int)l,aj prog 70 [.vp V,.v (.int .i64 s),.v (.string l)] (stepT (jr A s l)))(TK:∀s:Int,aj prog 37 [.vp V,.v (.int .i64 s)] (.v (.bool (bM A s))))(wV:∀m,aQ m V=true)(he:e9 E=0)(hl:E.length<=31) :
  aj prog 12 [.agg (aP x),.aA 5 (E.map aU) E.length] (.ck [.aA 3 ((pY (gY A) (λs=>bM A s) (bM A 0) A.rows.length E).map aK) (pY (gY A) (λs=>bM A s) (bM A 0) A.rows.length E).length,.v (.int .i64 0)]):=by
 have U:=Jq ok;have hb:=yd he;have RV:=KT E zd
 have hN:(aJ E).length<=62:=by
  have:=l5 E E.length (Nat.le_refl _)
  rw[agE]at this;rw[aJ,(cL _).length_eq];omega
 have RG:=λroot=>M9 C wV E zd (by have:=ok.max;omega) U root;have hR:∀{dl:ByteArray->NL},(∀root,rm (gY A) E root (dl root))->wM (λs=>bM A s) (bM A 0) E dl (aJ E).length=pY (gY A) (λs=>bM A s) (bM A 0) A.rows.length E:=λhd=>QS U hb hd;have hL:∀{dl:ByteArray->NL}i,(∀root,rm (gY A) E root (dl root))->(wM (λs=>bM A s) (bM A 0) E dl i).length<=100000:=λi hd=>QT U hd hl ok.max i;generalize pY (gY A) (λs=>bM A s) (bM A 0) A.rows.length E=M at *
 have eF:(AV.ck [.aA 3 (M.map aK) M.length,.v (.int .i64 0)]).wf 0=true:=by simp only[AV.wf,aQ,bu,agp]
 have hA:aQ 0 [.agg (aP x),.aA 5 (E.map aU) E.length]=true:=by rw[aB];simp only[aQ,AV.wf,df,bI,agp]
 rw[aB]at W hA⊢
 (refine aj.iy func12 rfl zo zo rfl hA eF ?_;simp only[ntmps12,results12,ae0,aeg,Nat.reduceAdd,Nat.reduceSub,afJ,afK,afz,afy])
 (refine ag ?_;intro K hK K hK)
 refine ah.one W ?_
 (revert K;revert K;refine dG 4 ?_;intro K hK)
 have rV:=λf=>fI f V (wV 0)
 refine me [] (bN 78 [(1,.aA 5 (E.map aU) E.length),(4,.v (.slice none 0 0)),(5,.v (.int .i64 0)),(6,.vp V),(7,.v (.int .i64 0))]) [] zk rfl zk ?_ zo ?_
 ·simp only[bN,afD,afE,afJ,afK,go_sem];simp only[pA,AV.bb,sig,go_sem,rV,wV];simp
 simp only[bN,afD,afE,afJ,afK,go_sem]
 (revert K;refine ag ?_;intro K hK K hK)
 (revert K;revert K;refine aM RV ?_;intro K hK)
 have em:∃em,em=bM A 0:=⟨_,rfl⟩;obtain⟨em,hem⟩:=em;rw[<-hem]at hR hL
 refine fN (ι:=PL×Nat) 9 61 3 rfl zs 22 (λz=>[(9,.vec 0 z.1.length),(10,.v (.int .i64 (z.2:Nat))),(11,.undef),(12,.undef)]) (λz=>[some ⟨61,3,true,z.1.map aK⟩]) (λz=>(aJ E).length-z.2) (λz=>z.2<=(aJ E).length∧∃dl:ByteArray->NL,(∀root,rm (gY A) E root (dl root))∧z.1=wM (λs=>bM A s) em E dl z.2) ([],0) ⟨Nat.zero_le _,_,Cu U hb,rfl⟩ ?_ ?_
 ·refine ab (bF ?_) ar ar
  all_goals exact⟨wV _,rfl⟩
 ·rintro⟨s,i⟩ ⟨hi,dl,hd,hs⟩ K hK;simp only at hi hs⊢
  rcases aei i (aJ E).length with h|h
  ·have d1:decide ((i:Int)<((aJ E).length:Int))=true:=b0;have e1:=getD_map aK (aJ E) i [] h;simp only[aK]at e1
   have eN:((aJ E).map aK).length=(aJ E).length:=zk
   have ws:=ae (k:=i) zd;have hv:=vD h
   have hd':∀l,rm (gY A) E (aJ E)[i].1.1 l->∀root,rm (gY A) E root (if root=(aJ E)[i].1.1 then l else dl root):=λl hl root=>by
    split
    ·rename_i hr;rw[hr];exact hl
    ·exact hd root
   have hS:=λl=>M4 (tk:=λs=>bM A s) (em:=em) (dl:=dl) (l:=l) h;have hlen:=hL i hd;rw[<-hs]at hS hlen;obtain⟨v,hve⟩:∃v,v=(aJ E)[i]:=⟨_,rfl⟩;simp only[<-hve]at e1 hv hd' hS
   obtain⟨b1,u⟩:∃b1,b1=if em=true then fG s ((v.1.1,v.1.1),v.2)else s:=⟨_,rfl⟩
   simp only[<-u]at hS
   have hb1l:b1.length<=100001:=by
    have:=F3 s ((v.1.1,v.1.1),v.2)
    rw[u];split<;>omega
   have P1:=KK s v zd;rw[hv]at P1
   have eV2:v.1.2=v.1.1:=by rw[hv]
   repeat((fail_if_success (with_reducible refine Rt (i:=9) ?_));first|(with_reducible first|refine bA.up ?_|refineλ(K:AK)hK=>?_|refine au zs ?_|refine ay zs ?_|(refine hK _ ?_;clear hK K))|simp only[go_sem,d1,e1,eN]|with_reducible refine wA ?_|clear hK K)
   refine H3 (bN 78 [(1,.aA 5 (E.map aU) E.length),(4,.v (.slice none 0 0)),(5,.v (.int .i64 0)),(6,.vp V),(7,.v (.int .i64 0)),(8,.aA 3 ((aJ E).map aK) (aJ E).length),(9,.vec 0 b1.length),(10,.v (.int .i64 (i:Nat)))]) [some ⟨61,3,true,b1.map aK⟩] .no zo zo ?_ ?_ ?_
   ·intro k ob q
    match k,q with
    |0,q=>cases q;exact bu _ _
    |k+1,q=>simp at q
   ·simp only[bN,afD,afE,afJ,afK,go_sem]
    ((iterate 3 revert K);refine fb e1 eN ?_;iterate 5 intro K hK)
    refine ah.two (ft.frame [] (RG v.1.1) zk rfl ?_ ?_ zk) ?_
    ·simp only[bW,AV.bb,rV,go_sem]
    ·simp only[aQ,AV.wf,wV,go_sem]
    rintro r o' ⟨r0,o1,⟨l,hl1,hl2,rfl,rfl⟩,rfl,rfl⟩
    ((iterate 5 revert K);refine ag ?_;intro K hK K hK K hK)
    have hl3:l.length<=992:=Nat.le_trans hl2 (Nat.mul_le_mul hl ok.max);obtain⟨B,hB⟩:∃B,B=tQ (λs=>bM A s) v.1.1 l b1:=⟨_,rfl⟩
    have hB0:B 0=b1:=by rw[hB];rfl
    have hBs:∀k(q:k<l.length),B (k+1)=if bM A (l[k].1.2:Nat)=true then fG (B k) ((v.1.1,l[k].1.1),l[k].2)else B k:=λk q=>by rw[hB];exact Ja q
    have hBl:∀k,(B k).length<=200000:=λk=>by
     have:=M3 (tk:=λs=>bM A s) (root:=v.1.1) (l:=l) (b:=b1) (k:=k)
     rw[hB];omega
    have hBe:wM (λs=>bM A s) em E (λr=>if r=v.1.1 then l else dl r) (i+1)=B l.length:=by rw[hB];exact hS l
    clear hB
    refine aN (ι:=Nat) 22 (λk=>[(9,.vec 0 (B k).length),(12,.v (.int .i64 (k:Nat)))]) (λk=>[some ⟨61,3,true,(B k).map aK⟩,some ⟨92,3,true,l.map pH⟩]) (λk=>l.length-k) (λk=>k<=l.length) 0 (Nat.zero_le _) ?_ ?_
    ·rw[hB0];refine ab (bF ?_) ar ar
     all_goals first|exact⟨wV _,rfl⟩
    ·rintro k q K hK
     rcases aei k l.length with O|O
     ·have d2:decide ((k:Int)<(l.length:Int))=true:=b0;have e2:=CR O
      have eN2:(l.map pH).length=l.length:=zk
      have ws2:=ae (k:=k) zd;have H:=hBs k O;have T:=TK (l[k].1.2:Nat);have P2:=KK (B k) ((v.1.1,l[k].1.1),l[k].2) (by have:=hBl k;omega);simp only[aK]at P2
      ((iterate 4 revert K);refine ak (mQ d2 e2 eN2) ?_;iterate 7 intro K hK)
      refine ah.one T ?_
      cases ht:bM A (l[k].1.2:Nat)
      ·rw[ht]at H;simp only[Bool.false_eq_true,if_false]at H
       ((iterate 7 revert K);refine fb ht ws2 ?_)
       refine aw.mk (k+1) O (show l.length-(k+1)<l.length-k by omega) ?_;rw[H];refine ab (bF ?_) ar ar
       all_goals exact wV _
      ·rw[ht]at H;simp only[if_true]at H
       ((iterate 7 revert K);refine jd 16 ht ?_;iterate 5 intro K hK)
       refine bG [17] [] za zo ?_
       ((iterate 5 revert K);refine ak (pt e1 e2 eN eN2) ?_;iterate 6 intro K hK)
       refine dP.fr [0] P2 zk ?_ ?_ ?_ ?_ ?_
       ·simp only[afZ,agt,afr,aeE,aa.bb,bj _ _ (bu 0 _)]
       ·rfl
       ·rfl
       ·intro k ob q
        match k,q with
        |0,q=>cases q;exact bu _ _
        |k+1,q=>simp at q
       rw[<-H];simp only[fj,List.set_cons_zero,List.set_cons_succ,aeE,Option.map_none,aa.bb,bj _ _ (bu 0 _),afy,agn,agt,afZ,ae0,aeg,Nat.reduceAdd,afz]
       ((iterate 6 revert K);refine dG 14 ?_;iterate 4 intro K hK)
       refine me [4,1] (bN 78 [(1,.aA 5 (E.map aU) E.length),(4,.v (.slice none 0 0)),(5,.v (.int .i64 0)),(6,.vp V),(7,.v (.int .i64 0)),(8,.aA 3 ((aJ E).map aK) (aJ E).length),(9,.vec 0 (B (k+1)).length),(10,.v (.int .i64 (i:Nat))),(11,.vec 1 l.length),(12,.v (.int .i64 (k:Nat)))]) [some ⟨61,3,true,(B (k+1)).map aK⟩,some ⟨92,3,true,l.map pH⟩] zk ?_ ?_ ?_ zo ?_
       ·simp only[afZ,agt,afr,List.getElem?_cons_succ,aeE,aa.bb,bj _ _ (bu 0 _),bj _ _ (dh 0 _)]
       ·intro k ob q
        match k,q with
        |0,q=>cases q;exact bu _ _
        |1,q=>cases q;exact dh _ _
        |k+2,q=>simp at q
       ·simp only[bN,afD,afE,afJ,afK,go_sem];simp only[pA,AV.bb,sig,go_sem,rV,wV];simp
       simp only[bN,afD,afE,afJ,afK,go_sem]
       ((iterate 4 revert K);refine ak ws2 ?_)
       refine aw.mk (k+1) O (show l.length-(k+1)<l.length-k by omega) ?_;refine ab (bF ?_) ar ar
       all_goals exact wV _
     ·have hin:k=l.length:=zd
      have d2:decide ((k:Int)<(l.length:Int))=false:=bi;subst hin
      ((iterate 4 revert K);refine fb d2 ws ?_)
      refine aw.mk (B l.length,i+1) ⟨h,_,hd' l hl1,hBe.symm⟩ (show(aJ E).length-(i+1)<(aJ E).length-i by omega) ?_;refine ab (bF ?_) ar ar
      all_goals exact wV _
   ·((iterate 3 revert K);refine ag ?_;iterate 5 intro K hK)
    refine ah.one (TK 0) ?_;rw[<-hem]
    cases Y:em
    ·rw[Y]at u;simp only[Bool.false_eq_true,if_false]at u
     ((iterate 5 revert K);refine ak Y ?_)
     refine⟨[0],zk,by rw[u];rfl,?_⟩;simp only[bN,afD,afE,afJ,afK,go_sem];simp only[pA,AV.bb,sig,go_sem,rV,wV];simp[<-u]
    ·rw[Y]at u;simp only[if_true]at u
     ((iterate 5 revert K);refine ak (pt Y e1 eN eV2) ?_;iterate 4 intro K hK)
     refine ah.two P1 ?_;rintro r o' ⟨rfl,rfl⟩
     ((iterate 4 revert K);refine ag ?_)
     refine⟨[3],zk,by rw[u];rfl,?_⟩;simp only[bN,afD,afE,afJ,afK,go_sem];simp only[pA,AV.bb,sig,go_sem,rV,wV];simp[<-u]
  ·have hin:i=(aJ E).length:=zd
   have d1:decide ((i:Int)<((aJ E).length:Int))=false:=bi;rw[hin,hR hd]at hs
   (revert K;revert K;refine ak d1 ?_)
   refine bC.ck ⟨?_,bC.v _,trivial⟩;subst hs;exact bC.sj (ob:=⟨61,3,true,s.map aK⟩) rfl rfl zk (bu _ _)
theorem Xk{x:Ex}{A:o8}(q:aD x=true)(L:NS x A):bM A 0=cH x:=by
 have u:cH x=kR x []:=by
  rw[cH,q,Bool.true_and,Bool.eq_iff_iff,iJ (fO q).1,iK];simp[q]
 have U:=L.pos;rw[u, <- L.aat [],dQ,yt,bM]
 have O:decide ((0:Int)<=0)=true:=zs
 have H:decide ((0:Int)<(A.rows.length:Int))=true:=b0;rw[O,H];rfl
theorem BB(x:Ex)(e:Int)(q:e≠0)(E:IR)(W:aj prog 36 [.agg (aP x),.aA 5 (E.map aU) E.length] (.ck [.v (.pointer none),.v (.int .i64 e)])):aj prog 12 [.agg (aP x),.aA 5 (E.map aU) E.length] (.ck [.v (.slice none 0 0),.v (.int .i64 e)]):=by
 have z0:(e !=0)=true:=by simp[q]
 rw[aB]at W⊢;refine gE func12 ntmps12 results12 ?_
 (refine ag ?_;intro K hK K hK)
 (revert K;revert K;refine dA W z0 ?_)
 (refine iE.of 40 rfl ?_;simp only[go_sem])
theorem QR(x:Ex)(E:IR)(NW:aj prog 68 [.agg (aP x)] (IY x))(Y:∀e∈E,JJ e)(hl:E.length<=31):aj prog 12 [.agg (aP x),.aA 5 (E.map aU) E.length] (tM x E):=by
 unfold IY at NW;unfold tM
 cases u:gb x (ct x)with
 |inr e=>
  rw[u]at NW;have O:=uC u
  have H:iO x E=e:=by rw[iO,u]
  rw[H,if_neg O];exact BB x e O E (R9 x e O E NW)
 |inl A=>
  rw[u]at NW;obtain⟨U,_,L,LO⟩:=J1 u;have W:=Vc x A E NW Y zd
  have H:iO x E=e9 E:=by rw[iO,u]
  rw[H]
  by_cases q:e9 E=0
  ·rw[D5,if_pos q]at W;rw[if_pos q]
   have V:gU x E=lS x A E:=by rw[gU,u];simp only[if_pos q]
   rw[V,lS, <- Xk U L];exact Ni x A L.toAOk E W (UJ LO) (Q4 LO.ends) (λm=>xu m A) q hl
  ·rw[D5,if_neg q]at W;rw[if_neg q];exact BB x _ q E W
theorem UD(x:Ex)(E:IR)(f:ByteArray)(PR:aj prog 12 [.agg (aP x),.aA 5 (E.map aU) E.length] (tM x E))(hL:(gU x E).length<=100000):aj prog 14 [.agg (aP x),.aA 5 (E.map aU) E.length,.v (.string f)] (E7 x E f):=by
 unfold tM at PR;unfold E7;generalize gU x E=L at *;generalize iO x E=c at *
 by_cases A:c=0
 case neg=>
  rw[if_neg A]at PR⊢
  have z0:(c !=0)=true:=by simp[A]
  rw[aB]at PR⊢;refine gE func14 ntmps14 results14 ?_
  (refine ag ?_;intro K hK K hK)
  (revert K;revert K;refine dA PR z0 ?_)
  (refine iE.of 40 rfl ?_;simp only[go_sem])
 rw[if_pos A]at PR⊢
 have eF:(AV.ck [.aA 3 ((cX f L).map aK) (cX f L).length,.v (.int .i64 0)]).wf 0=true:=by simp only[AV.wf,aQ,bu,agp]
 have H:aQ 0 [.agg (aP x),.aA 5 (E.map aU) E.length,.v (.string f)]=true:=by rw[aB];simp only[aQ,AV.wf,df,bI,agp]
 rw[aB]at PR H⊢
 (refine aj.iy func14 rfl zo zo rfl H eF ?_;simp only[ntmps14,results14,ae0,aeg,Nat.reduceAdd,Nat.reduceSub,afJ,afK,afz,afy])
 (refine ag ?_;intro K hK K hK)
 (revert K;revert K;refine aM PR ?_;intro K hK)
 refine fN (ι:=Nat) 10 61 3 rfl zs 21 (λk=>[(10,.vec 1 (cX f (L.take k)).length),(11,.v (.int .i64 (k:Nat)))]) (λk=>[some ⟨25,3,false,[[.v (.int .i64 x.kind),.v (.string x.label),.aA 3 (x.kids.map aP) x.kids.length]]⟩,some ⟨61,3,true,(cX f (L.take k)).map aK⟩]) (λk=>L.length-k) (λk=>k<=L.length) 0 (Nat.zero_le _) ?_ ?_
 ·refine ab (bF ?_) (bF ?_) ar
  all_goals first|exact⟨rfl,rfl⟩|rfl
 ·rintro k Y K hK
  rcases aei k L.length with h|h
  ·have d1:decide ((k:Int)<(L.length:Int))=true:=b0;have O:=qy h
   have eN:(L.map aK).length=L.length:=zk
   have ws:=ae (k:=k) zd
   have eY:cX f (L.take (k+1))=cX f (L.take k)++if L[k].1.1=f then [L[k]]else []:=by
    rw[cX,cX,agD h,List.filter_append]
    by_cases q:L[k].1.1=f<;>simp[q]
   have eM:((cX f (L.take k)).map aK).length=(cX f (L.take k)).length:=zk
   have eW:=λn=>bu n (cX f (L.take (k+1)));have U:(cX f (L.take k)).length<=100000:=Nat.le_trans (List.length_filter_le _ _) (by rw[List.length_take];omega)
   by_cases q:L[k].1.1=f
   ·have d2:(L[k].1.1.toList==f.toList)=true:=by rw[q];simp
    rw[if_pos q]at eY
    (revert K;revert K;refine ak (nU d1 O eN d2 eM ws) ?_)
    refine aw.mk (k+1) h (show L.length-(k+1)<L.length-k by omega) ?_;rw[eY]at eW⊢;simp only[List.map_append,afZ,agt,aem,ae0,aeg,aK]at eW⊢;exact ab ar ar ar
    all_goals first|exact eW _|exact⟨rfl,eW _⟩
   ·have d2:(L[k].1.1.toList==f.toList)=false:=by
     cases V:(L[k].1.1.toList==f.toList)
     ·rfl
     ·exact absurd (toList_inj.1 V) q
    rw[if_neg q,agn]at eY
    (revert K;revert K;refine ak (nU d1 O eN d2 eM ws) ?_)
    refine aw.mk (k+1) h (show L.length-(k+1)<L.length-k by omega) ?_;rw[eY]at eW⊢;exact ab ar ar ar
    all_goals first|exact eW _|exact⟨rfl,eW _⟩
  ·have u:k=L.length:=zd
   have d1:decide ((k:Int)<(L.length:Int))=false:=bi
   have W:L.take k=L:=by rw[u,agE]
   (revert K;revert K;refine ak d1 ?_)
   rw[W];exact bC.ck ⟨bC.sj (ob:=⟨61,3,true,(cX f L).map aK⟩) rfl rfl zk (bu _ _),bC.v _,trivial⟩
def ji(i:Nat):C5:=[.v (.string ⟨#[109]⟩),.v (.int .i64 0),Aa i,.v (.string ⟨#[]⟩)]
def fu(i:Nat):C5:=[.v (.string ⟨#[]⟩),.v (.string ⟨#[]⟩),.v (.string ⟨#[]⟩),Aa i,.v (.slice none 0 0)]
def dI(e:bH):C5:=[.v (.string e.bN),.v (.string e.to),.v (.string e.label),.v (.int .i64 e.time),.aA 4 (e.props.map c8++marksOf ji) e.props.length]
@[go_sem] theorem abO(n k:Nat):bE n (kI ji k)=true:=ei n _ (λ_=>rfl) k
@[go_sem] theorem vH(n:Nat):bE n (marksOf ji)=true:=ei n _ (λ_=>rfl) 12
@[go_sem] theorem abK(n k:Nat):bE n (kI fu k)=true:=ei n _ (λ_=>rfl) k
@[go_sem] theorem BV(n:Nat):bE n (marksOf fu)=true:=ei n _ (λ_=>rfl) 12
theorem BT(n:Nat)(e:bH):aQ n (dI e)=true:=by simp only[dI,aQ,AV.wf,gx,cM,vH,afe,agp]
@[go_sem] theorem R2(n:Nat)(l:IR):bE n (l.map dI)=true:=bt _ (BT n) l
theorem Kw(i:Nat)(hi:i<1000):aj prog 100 [.v (.int .i64 1),.v (.int .i64 i)] (.agg (ji i)):=by
 have M:=IU i hi;simp only[Aa]at M;simp only[ji,Aa];refine gE func100 ntmps100 results100 ?_
 (refine ag ?_;intro K hK K hK)
 (revert K;revert K;refine aM M ?_)
 (refine iE.of 40 rfl ?_;simp only[go_sem])
theorem Kv(i:Nat)(hi:i<1000):aj prog 35 [.v (.int .i64 1),.v (.int .i64 i)] (.agg (fu i)):=by
 have M:=IU i hi;simp only[Aa]at M;simp only[fu,Aa];refine gE func35 ntmps35 results35 ?_
 (refine ag ?_;intro K hK K hK)
 (revert K;revert K;refine aM M ?_)
 (refine iE.of 40 rfl ?_;simp only[go_sem])
theorem TW(l:Rd)(hl:l.length<=1000000) :
  aj prog 66 [.aA 4 (l.map c8) l.length] (.aA 4 (l.map c8++marksOf ji) l.length):=by
 have H:IntKind.i64.wrap ((l.length:Int)+12)=((l.length+12:Nat):Int):=D4 hl
 have eT:List.take l.length (l.map c8)=l.map c8:=by rw[List.take_of_length_le zk]
 refine gE func66 ntmps66 results66 ?_
 (refine fb H eT ?_;intro K hK)
 refine b7 (ι:=Nat) (λi=>[(0,.aA 4 (l.map c8) l.length),(2,.v (.slice none 0 0)),(3,.vec 0 (l.length+i)),(4,.v (.int .i64 i))]) (λi=>[some ⟨173,4,true,l.map c8++kI ji i⟩]) (λi=>12-i) (λi=>i<=12) 0 zd ?_ ?_
 ·refine ab (bF ?_) (bF ?_) ar
  ·exact⟨rfl,rfl⟩
  ·simp[kI]
 ·intro i hi K hK;simp only[bN,afD,afE,afJ,afK,go_sem]
  (revert K;revert K;refine ag ?_;intro K hK K hK K hK)
  refine cn.part (λq=>?_) (λq=>?_)
  ·have A:i<12:=by replace q:=cq q;omega
   have eW:=ae (k:=i) zd;have M:=Kw i zd;simp only[ji,Aa]at M
   ((iterate 3 revert K);refine ak eW ?_;iterate 4 intro K hK)
   ((iterate 4 revert K);refine dA M eW ?_)
   exact aw.mk (i+1) zd zd (by refine ab (bF ?_) (bF ?_) ar<;>rfl)
  ·have u:i=12:=by replace q:=cq q;omega
   have eM:kI ji i=marksOf ji:=by rw[u];rfl
   ((iterate 3 revert K);refine ak eM ?_)
   exact iE.aA (by simp only[gx,cM,vH,agp])
theorem IQ(e:bH)(q:e.props.length<=1000000):aj prog 34 [.agg (aU e)] (.agg (dI e)):=by
 have C:=TW e.props q;simp only[aU,dI];refine gE func34 ntmps34 results34 ?_
 (refine ag ?_;intro K hK K hK)
 (revert K;revert K;refine aM C ?_)
 (refine iE.of 40 rfl ?_;simp only[go_sem])
theorem FH(l:IR)(hl:l.length<=1000000)(O:∀p,p∈l->p.props.length<=1000000) :
  aj prog 11 [.aA 5 (l.map aU) l.length] (.aA 5 (l.map dI++marksOf fu) l.length):=by
 have U:IntKind.i64.wrap ((l.length:Int)+12)=((l.length+12:Nat):Int):=by rw[bS zd zd];omega
 refine gE func11 ntmps11 results11 ?_
 (refine ak U ?_;intro K hK)
 refine b7 (ι:=Nat) (λk=>[(0,.aA 5 (l.map aU) l.length),(2,.v (.slice none 0 0)),(3,.vec 0 k),(4,.v (.int .i64 k))]) (λk=>[some ⟨35,5,true,(l.take k).map dI⟩]) (λk=>l.length-k) (λk=>k<=l.length) 0 zd ?_ ?_
 ·refine ab (bF ?_) ar ar
  rfl
 ·intro k V K hK;simp only[bN,afD,afE,afJ,afK,go_sem]
  (revert K;revert K;refine ag ?_;intro K hK K hK K hK)
  refine cn.part (λh=>?_) (λh=>?_)
  ·have q:k<l.length:=by replace h:=qv h;omega
   have eG:=getD_map aU l k [] q;have eW:=ae (k:=k) zd;have HX:=IQ l[k] (O _ (afm q));have eT:(l.take (k+1)).map dI=(l.take k).map dI++[dI l[k]]:=rl dI l k q;simp only[aU,dI]at HX eG eT
   repeat(first|(with_reducible first|refine bA.up ?_|refineλ(K:AK)hK=>?_|(refine hK _ ?_;clear hK K))|simp only[go_sem,eG,eW,aU]|with_reducible refine wA ?_|clear hK K)
   refine ah.one HX ?_
   have eL:(l.take k).length=k:=by rw[List.length_take];omega
   ((iterate 5 revert K);refine fb eW eL ?_)
   exact aw.mk (k+1) zd zd (by refine ab ar (bF ?_) ar;exact eT.symm)
  ·have u:k=l.length:=by replace h:=qv h;omega
   have eA:List.map dI (List.take k l)=l.map dI:=by rw[u,List.take_length]
   ((iterate 3 revert K);refine ak eA ?_;intro K hK)
   refine b7 (ι:=Nat) (λi=>[(0,.aA 5 (l.map aU) l.length),(2,.v (.slice none 0 0)),(3,.vec 0 (l.length+i)),(6,.v (.int .i64 i))]) (λi=>[some ⟨35,5,true,l.map dI++kI fu i⟩]) (λi=>12-i) (λi=>i<=12) 0 zd ?_ ?_
   ·refine ab (bF ?_) (bF ?_) ar
    ·exact⟨u,rfl⟩
    ·simp[kI]
   ·intro i hi K hK;simp only[bN,afD,afE,afJ,afK,go_sem]
    (revert K;revert K;refine ag ?_;intro K hK K hK K hK)
    refine cn.part (λA=>?_) (λA=>?_)
    ·have q:i<12:=by replace A:=qv A;omega
     have eW:=ae (k:=i) zd;have M:=Kv i zd;simp only[fu,Aa]at M
     ((iterate 3 revert K);refine ak eW ?_;iterate 4 intro K hK)
     ((iterate 4 revert K);refine dA M eW ?_)
     exact aw.mk (i+1) zd zd (by refine ab (bF ?_) (bF ?_) ar<;>rfl)
    ·have H:i=12:=by replace A:=qv A;omega
     have eM:kI fu i=marksOf fu:=by rw[H];rfl
     ((iterate 3 revert K);refine ak eM ?_)
     exact iE.aA (by simp only[gx,R2,BV,agp])
theorem zu(x y:Ex):aj prog 42 [.agg (aP x),.agg (aP y)] (.v (.bool (jb x y))):=
 .vg zo (by simp only[aQ,AV.wf,fp,agp]) (λD nu w vargs h=>by
  obtain⟨a,b,rfl,u,q⟩:=UF h;obtain⟨ca,rfl,ka⟩:=Dz u;obtain⟨cb,rfl,kb⟩:=Dz q
  exact DK x y ca cb w (DG x ca ka) (DG y cb kb))
theorem vT(x:Ex):jb x x=true:=(L4 x x).2 rfl
theorem s9{α:Type}(f:α->C5)(l:List α)(m:List C5)(i:Nat)(h:i<l.length):(l.map f++m).getD i []=f l[i]:=by
 rw[aeS,aej (by simpa using h)];simp[h]
theorem FM(f:Nat->C5):∀n i,i<n->(kI f n)[i]?=some (f i)
 |0,i,h=>absurd h zd
 |n+1,i,h=>by
  rw[kI]
  rcases aei i n with q|q
  ·rw[aej (by rw[pV];exact q)];exact FM f n i q
  ·obtain rfl:i=n:=zd
   rw[aeA (by rw[pV];exact Nat.le_refl _),pV];simp
theorem CO{α:Type}(f:α->C5)(l:List α)(m:Nat->C5)(j:Nat)(h:j<12):(l.map f++marksOf m).getD (l.length+j) []=m j:=by
 rw[aeS,aeA zk,List.length_map,Nat.add_sub_cancel_left,marksOf,FM m 12 j h];rfl
def exM(i:Nat):Ex:= .mk ((8000024+i:Nat):Int) ⟨#[]⟩ []
theorem Dd(l:IO)(hl:l.length<=1000000)(H:∀x,x∈l->aj prog 18 [.agg (dn x),.agg (aP x)] (.v (.bool true))) :
  aj prog 43 [.aA 3 (l.map dn++marksOf fT) l.length,.aA 3 (l.map aP) l.length] (.v (.bool true)):=by
 have O:IntKind.i64.wrap ((l.length:Int)+12)=((l.length+12:Nat):Int):=D4 hl;refine gE func43 ntmps43 results43 ?_
 (refine aG O ?_;intro K hK)
 refine b7 (ι:=Nat) (λi=>[(0,.aA 3 (l.map dn++marksOf fT) l.length),(1,.aA 3 (l.map aP) l.length),(4,.v (.bool false)),(5,.aA 3 (l.map dn++marksOf fT) (l.length+12)),(6,.v (.int .i64 i))]) (λ_=>[]) (λi=>l.length+12-i) (λi=>i<=l.length+12) 0 zd ?_ ?_
 ·refine ab (bF ?_) ar ar
  rfl
 ·intro i hi K hK;simp only[bN,afD,afE,afJ,afK,go_sem]
  (revert K;revert K;refine bc ?_;intro K hK K hK K hK)
  refine cn.part (λh=>?_) (λh=>?_)
  ·have u:i<l.length+12:=by replace h:=cq h;omega
   have eW:=ae (k:=i) zd
   rcases aei i l.length with q|q
   ·have g1:decide ((i:Int)<(l.length:Int))=true:=by simpa using q
    have g2:decide ((l.length:Int)<=(i:Int))=false:=by simpa using q
    have eG:=s9 dn l (marksOf fT) i q;have eH:=getD_map aP l i [] q;have HX:=H l[i] (afm q);simp only[aB,mT]at HX eG eH
    ((iterate 3 revert K);refine aG (pt g1 g2 eG eH) ?_;iterate 5 intro K hK)
    ((iterate 5 revert K);refine uP HX (mQ g1 g2 eW) ?_)
    exact aw.mk (i+1) zd zd (by exact ab ar ar ar)
   ·obtain⟨j,A⟩:∃j,i=l.length+j:=⟨i-l.length,zd⟩;have g1:decide ((i:Int)<(l.length:Int))=false:=bi;have g2:decide ((l.length:Int)<=(i:Int))=true:=b0
    have eS:IntKind.i64.wrap ((i:Int)-(l.length:Int))=(j:Int):=by rw[bS zd zd];omega
    have eG:(l.map dn++marksOf fT).getD i []=fT j:=by rw[A];exact CO dn l fT j zd
    have M:=yO j zd;have S:=(zu (exM j) (exM j)).le (args':=[.agg (fT j),.agg (fT j)]) rfl (.cons (FE j).agg (.cons (FE j).agg .nil));rw[vT]at S;simp only[fT,Aa]at M S eG
    ((iterate 3 revert K);refine cw (qu g1 g2 eG eS eW) ?_;iterate 5 intro K hK)
    ((iterate 5 revert K);refine uP M (qu g1 g2 eG eS eW) ?_;iterate 5 intro K hK)
    ((iterate 5 revert K);refine uP S (qu g1 g2 eG eS eW) ?_)
    exact aw.mk (i+1) zd zd (by exact ab ar ar ar)
  ·((iterate 3 revert K);exact Fe)
theorem IK(x:Ex)(u:x.lens 1000000):aj prog 18 [.agg (dn x),.agg (aP x)] (.v (.bool true)):=by
 induction x using Ex.ind with
 |h k s l ih=>
  have H:∀y,y∈l->y.lens 1000000:=λy q z A=>u z (by rw[aq,bO];exact List.mem_cons_of_mem _ (List.mem_flatMap.2 ⟨y,q,A⟩));have C:=Dd l (u (.mk k s l) (by rw[aq];exact List.mem_cons_self)) (λy q=>ih y q (H y q));have S:=(zu (.mk k s l) (.mk k s l)).le (args':=[.agg (dn (.mk k s l)),.agg (aP (.mk k s l))]) (by simp only[aQ,AV.wf,ny,fp,agp]) (.cons (yG _).agg (.cons (.refl _) .nil));rw[vT]at S;rw[aB,mT]at S⊢;simp only[Ex.kind,Ex.label,Ex.kids]at S⊢;refine gE func18 ntmps18 results18 ?_
  (refine ag ?_;intro K hK K hK)
  (revert K;revert K;refine aM S ?_;intro K hK K hK)
  (revert K;revert K;exact lH C)
def YT(i:Nat):bH:=⟨⟨#[]⟩,⟨#[]⟩,⟨#[]⟩,((8000024+i:Nat):Int),[]⟩
theorem FF(i:Nat):xx (fu i) (aU (YT i)):= .cons (.refl _) (.cons (.refl _) (.cons (.refl _) (.cons (.refl _) (.cons (.nil 4) .nil))))
def ET(m:List C5)(e:bH):C5:=[.v (.string e.bN),.v (.string e.to),.v (.string e.label),.v (.int .i64 e.time),.aA 4 (e.props.map c8++m) e.props.length]
theorem LU(e:bH):ET [] e=aU e:=by rw[ET,List.append_nil];rfl
theorem Gi(l:Rd)(m:List C5)(hl:l.length<=1000000)(q:∀n,bE n m=true):aj prog 74 [.aA 4 (l.map c8++m) l.length,.aA 4 (l.map c8) l.length] (.v (.bool true)):=by
 have eQ:∀n,bE n (l.map c8++m)=true:=λn=>by rw[gx,cM,q];rfl
 (refine aj.enter func74 rfl zo zo rfl (by simp only[go_sem,aQ,AV.wf,agp,afe,afi,eQ]) (by simp only[go_sem,aQ,AV.wf,bz,agp,afe,afi,eQ]) ?_;simp only[ntmps74,results74,ae0,List.length_nil,Nat.reduceAdd,Nat.reduceSub,afJ,afK,List.cons_append,List.nil_append])
 repeat(first|(with_reducible first|refine bA.up ?_|refineλ(K:AK)hK=>?_|refine wD ?_|(refine hK _ ?_;clear hK K))|simp only[go_sem,bne_self_eq_false]|with_reducible refine wA ?_|clear hK K)
 refine aZ (ι:=Nat) 6 (λi=>[(5,.v (.int .i64 i))]) (λi=>l.length-i) (λi=>i<=l.length) 0 (Nat.zero_le _) ?_ ?_
 ·refine ab (bF ?_) ar ar
  all_goals first|exact q _|exact⟨q _,rfl⟩|exact eQ _|rfl
 ·intro i hi K hK;have eW:=ae (k:=i) zd
  rcases aei i l.length with h|h
  ·have d1:decide ((i:Int)<(l.length:Int))=true:=b0;have eG:=s9 c8 l m i h;have eH:=getD_map c8 l i [] h;simp only[c8]at eG eH
   repeat(first|(with_reducible first|refine bA.up ?_|refineλ(K:AK)hK=>?_|refine wD ?_|(refine hK _ ?_;clear hK K))|simp only[go_sem,d1,eG,eH,bne_self_eq_false,beq_self_eq_true,agp,ahm]|with_reducible refine wA ?_|clear hK K)
   refine aG eW ?_;exact aw.mk (i+1) h zd (by refine ab (bF ?_) ar ar;all_goals first|exact q _|exact eQ _)
  ·have d1:decide ((i:Int)<(l.length:Int))=false:=bi
   (revert K;revert K;exact Y3 d1)
theorem zt(e:bH)(m:List C5)(hl:e.props.length<=1000000)(q:∀n,bE n m=true):aj prog 45 [.agg (ET m e),.agg (aU e)] (.v (.bool true)):=by
 have C:=Gi e.props m hl q
 have eQ:∀n,bE n (e.props.map c8++m)=true:=λn=>by rw[gx,cM,q];rfl
 simp only[ET,aU]
 (refine aj.enter func45 rfl zo zo rfl (by simp only[go_sem,aQ,AV.wf,agp,afe,afi,eQ]) (by simp only[go_sem,aQ,AV.wf,bz,agp,afe,afi,eQ]) ?_;simp only[ntmps45,results45,ae0,List.length_nil,Nat.reduceAdd,Nat.reduceSub,afJ,afK,List.cons_append,List.nil_append])
 repeat(first|(with_reducible first|refine bA.up ?_|refineλ(K:AK)hK=>?_|(refine hK _ ?_;clear hK K))|simp only[go_sem,beq_self_eq_true]|clear hK K)
 refine ah.one C ?_
 repeat(first|(with_reducible first|refine bA.up ?_|refineλ(K:AK)hK=>?_|(refine hK _ ?_;clear hK K))|simp only[go_sem,beq_self_eq_true]|clear hK K)
theorem TM(l:Rd)(hl:l.length<=1000000) :
  aj prog 73 [.aA 4 (l.map c8++marksOf ji) l.length,.aA 4 (l.map c8) l.length] (.v (.bool true)):=by
 have H:IntKind.i64.wrap ((l.length:Int)+12)=((l.length+12:Nat):Int):=D4 hl;refine gE func73 ntmps73 results73 ?_
 (refine aG H ?_;intro K hK)
 refine b7 (ι:=Nat) (λi=>[(0,.aA 4 (l.map c8++marksOf ji) l.length),(1,.aA 4 (l.map c8) l.length),(4,.v (.bool false)),(5,.aA 4 (l.map c8++marksOf ji) (l.length+12)),(6,.v (.int .i64 i))]) (λ_=>[]) (λi=>l.length+12-i) (λi=>i<=l.length+12) 0 zd ?_ ?_
 ·refine ab (bF ?_) ar ar
  rfl
 ·intro i hi K hK;simp only[bN,afD,afE,afJ,afK,go_sem]
  (revert K;revert K;refine bc ?_;intro K hK K hK K hK)
  refine cn.part (λh=>?_) (λh=>?_)
  ·have u:i<l.length+12:=by replace h:=cq h;omega
   have eW:=ae (k:=i) zd
   rcases aei i l.length with q|q
   ·have g1:decide ((i:Int)<(l.length:Int))=true:=by simpa using q
    have g2:decide ((l.length:Int)<=(i:Int))=false:=by simpa using q
    have eG:=s9 c8 l (marksOf ji) i q;have eH:=getD_map c8 l i [] q;simp only[c8]at eG eH
    repeat(first|(with_reducible first|refine bA.up ?_|refineλ(K:AK)hK=>?_|refine wD ?_|(refine hK _ ?_;clear hK K))|simp only[go_sem,g1,g2,eG,eH,eW,Go.undef,beq_self_eq_true,agp,ahm]|with_reducible refine wA ?_|clear hK K)
    exact aw.mk (i+1) zd zd (by exact ab ar ar ar)
   ·obtain⟨j,A⟩:∃j,i=l.length+j:=⟨i-l.length,zd⟩;have g1:decide ((i:Int)<(l.length:Int))=false:=bi;have g2:decide ((l.length:Int)<=(i:Int))=true:=b0
    have eS:IntKind.i64.wrap ((i:Int)-(l.length:Int))=(j:Int):=by rw[bS zd zd];omega
    have eG:(l.map c8++marksOf ji).getD i []=ji j:=by rw[A];exact CO c8 l ji j zd
    have M:=Kw j zd;simp only[ji,Aa]at M eG
    ((iterate 3 revert K);refine cw (qu g1 g2 eG eS eW) ?_;iterate 5 intro K hK)
    refine bQ.one M ?_
    repeat(first|(with_reducible first|refine bA.up ?_|refineλ(K:AK)hK=>?_|refine wD ?_|(refine hK _ ?_;clear hK K))|simp only[go_sem,g1,g2,eG,eS,eW,Go.undef,beq_self_eq_true,agp,ahm]|with_reducible refine wA ?_|clear hK K)
    exact aw.mk (i+1) zd zd (by exact ab ar ar ar)
  ·((iterate 3 revert K);exact Fe)
theorem IJ(e:bH)(hl:e.props.length<=1000000):aj prog 44 [.agg (dI e),.agg (aU e)] (.v (.bool true)):=by
 have C:=TM e.props hl;have S:=zt e (marksOf ji) hl (λn=>vH n);simp only[ET,aU,dI]at S⊢;refine gE func44 ntmps44 results44 ?_
 (refine ag ?_;intro K hK K hK)
 (revert K;revert K;refine aM S ?_;intro K hK K hK)
 (revert K;revert K;exact lH C)
theorem Fu(l:IR)(hl:l.length<=1000000)(u:∀p,p∈l->p.props.length<=1000000) :
  aj prog 19 [.aA 5 (l.map dI++marksOf fu) l.length,.aA 5 (l.map aU) l.length] (.v (.bool true)):=by
 have O:IntKind.i64.wrap ((l.length:Int)+12)=((l.length+12:Nat):Int):=D4 hl;refine gE func19 ntmps19 results19 ?_
 (refine aG O ?_;intro K hK)
 refine b7 (ι:=Nat) (λi=>[(0,.aA 5 (l.map dI++marksOf fu) l.length),(1,.aA 5 (l.map aU) l.length),(4,.v (.bool false)),(5,.aA 5 (l.map dI++marksOf fu) (l.length+12)),(6,.v (.int .i64 i))]) (λ_=>[]) (λi=>l.length+12-i) (λi=>i<=l.length+12) 0 zd ?_ ?_
 ·refine ab (bF ?_) ar ar
  rfl
 ·intro i hi K hK;simp only[bN,afD,afE,afJ,afK,go_sem]
  (revert K;revert K;refine bc ?_;intro K hK K hK K hK)
  refine cn.part (λh=>?_) (λh=>?_)
  ·have A:i<l.length+12:=by(try simp only[decide_eq_true_eq,decide_eq_false_iff_not,Int.ofNat_lt,Int.ofNat_le]at h);omega
   have eW:=ae (k:=i) zd
   rcases aei i l.length with q|q
   ·have g1:decide ((i:Int)<(l.length:Int))=true:=by simpa using q
    have g2:decide ((l.length:Int)<=(i:Int))=false:=by simpa using q
    have eG:=s9 dI l (marksOf fu) i q;have eH:=getD_map aU l i [] q;have HX:=IJ l[i] (u _ (afm q));simp only[aU,dI]at HX eG eH
    ((iterate 3 revert K);refine aG (pt g1 g2 eG eH) ?_;iterate 5 intro K hK)
    ((iterate 5 revert K);refine uP HX (mQ g1 g2 eW) ?_)
    exact aw.mk (i+1) zd zd (by exact ab ar ar ar)
   ·obtain⟨j,H⟩:∃j,i=l.length+j:=⟨i-l.length,zd⟩;have g1:decide ((i:Int)<(l.length:Int))=false:=bi;have g2:decide ((l.length:Int)<=(i:Int))=true:=b0
    have eS:IntKind.i64.wrap ((i:Int)-(l.length:Int))=(j:Int):=by rw[bS zd zd];omega
    have eG:(l.map dI++marksOf fu).getD i []=fu j:=by rw[H];exact CO dI l fu j zd
    have M:=Kv j zd;have S:=zt (YT j) [] (Nat.zero_le _) (λ_=>rfl);rw[LU]at S;have S:=S.le (args':=[.agg (fu j),.agg (fu j)]) rfl (.cons (FF j).agg (.cons (FF j).agg .nil));simp only[fu,Aa]at M S eG
    ((iterate 3 revert K);refine cw (qu g1 g2 eG eS eW) ?_;iterate 5 intro K hK)
    ((iterate 5 revert K);refine uP M (qu g1 g2 eG eS eW) ?_;iterate 5 intro K hK)
    ((iterate 5 revert K);refine uP S (qu g1 g2 eG eS eW) ?_)
    exact aw.mk (i+1) zd zd (by exact ab ar ar ar)
  ·((iterate 3 revert K);exact Fe)
mutual
theorem F7:∀(x:Ex)(d:Nat),qX x d<=60->(aq x).length<=qX x d
 | .mk k s l,d,h=>by
  rw[qX]at h⊢
  split at h
  ·omega
  ·rename_i hd;rw[if_neg hd]
   have:=F5 l (d+1) 1 h
   rw[aq,ae0];omega
theorem F5:∀(l:IO)(d n:Nat),qL l d n<=60->n+(b4 l).length<=qL l d n
 | [],d,n,h=>by rw[qL,b4];simp
 |x::xs,d,n,h=>by
  rw[qL]at h⊢
  split at h
  ·rename_i hn;rw[if_pos hn];have q:=F5 xs d (n+qX x d) h;have u:=F7 x d zd;rw[b4,List.length_append];omega
  ·omega
end
theorem yH(e:bH):xx (dI e) (aU e):= .cons (.refl _) (.cons (.refl _) (.cons (.refl _) (.cons (.refl _) (.cons (.rows (λx _=> .refl _)) .nil))))
theorem yE(x:Ex)(E:IR)(f:ByteArray)(hx:x.ok)(hE:∀e∈E,e.ok)(hl:E.length<=140737488355328):aj prog 4 [.agg (aP x),.aA 5 (E.map aU) E.length,.v (.string f)] (.v (.bool true)):=by
 have W:=Aw;have GR:=Mk x E hl
 cases U:Mj x E
 ·rw[U]at GR;obtain⟨h30,O⟩:=TF U
  have hq:qX x 0<=60:=by
   simp only[Mj,Bool.or_eq_false_iff,decide_eq_false_iff_not]at U;omega
  have hpx:=F7 x 0 hq;have hlens:=Tv (x:=x) (n:=1000000) zd;have NR:=Ug x zd (λz hz=>⟨by have:=iN x z hz;have:=mj z;omega,by have:=Uq x hx z hz;unfold wI at this;omega⟩);have A:∀e∈E,xv e:=λe q=>(hE e q).aau (by have:=O e q;omega)
  have hsm:∀e∈E,JJ e:=λe q=>by
   have h:=hE e q;have h1:=h.bN;have h2:=h.to;have h3:=h.label;unfold wI at h1 h2 h3;refine⟨zd,zd,zd,λp hpp=>?_,by have:=O e q;omega⟩;obtain⟨k1,k2⟩:=h.props p hpp;unfold Hk.ok at k2;unfold wI at k1 k2;exact⟨zd,zd⟩
  have H:=Bk x E zd (tN x);have Y:xx [.agg (dn x),.aA 5 (E.map dI++marksOf fu) E.length] [.agg (aP x),.aA 5 (E.map aU) E.length]:= .cons (yG x).agg (.cons (.rows λe _=>yH e) .nil);have V:xx [.agg (dn x),.aA 5 (E.map dI++marksOf fu) E.length,.v (.string f)] [.agg (aP x),.aA 5 (E.map aU) E.length,.v (.string f)]:= .cons (yG x).agg (.cons (.rows λe _=>yH e) (.cons (.refl _) .nil))
  have u:bE 0 (E.map dI++marksOf fu)=true:=by rw[gx,BV,bt _ (λe=>BT 0 e)];rfl
  have PS:=(B6 x E hx A zd (tN x)).le (args':=[.agg (dn x),.aA 5 (E.map dI++marksOf fu) E.length]) (by simp only[aQ,AV.wf,ny,u,agp]) Y;have FS:=(V0 x E f hx A zd (tN x)).le (args':=[.agg (dn x),.aA 5 (E.map dI++marksOf fu) E.length,.v (.string f)]) (by simp only[aQ,AV.wf,ny,u,agp]) V;have VS:=(Dw E zd).le (args':=[.aA 5 (E.map dI++marksOf fu) E.length]) (by simp only[aQ,AV.wf,u,agp]) (.cons (.rows λe _=>yH e) .nil);have PR:=QR x E NR hsm zd;have FR:=UD x E f PR H;have VR:=KT E zd;have LX:=IS x hlens;have KX:=IK x hlens;have LE:=FH E zd (λe q=>by have:=O e q;omega);have KE:=Fu E zd (λe q=>by have:=O e q;omega)
  have hN:(aJ E).length<=1000000:=by
   have:=l5 E E.length (Nat.le_refl _)
   rw[List.take_length]at this;rw[aJ,(cL _).length_eq];omega
  have SV:=qb (aJ E) hN;unfold tM at PS PR;unfold E7 at FS FR;have hFl:(cX f (gU x E)).length<=100000:=Nat.le_trans (List.length_filter_le _ _) H;have S1:=qb (gU x E) zd;have S2:=qb (cX f (gU x E)) zd;generalize gU x E=L at *;generalize cX f L=M at *;generalize iO x E=c at *;simp only[aB,mT]at *;have S0:=(qb [] zk).le (args':=[.v (.slice none 0 0),.v (.slice none 0 0)]) rfl (.cons (.nil 3) (.cons (.nil 3) .nil))
  by_cases h0:c=0
  ·rw[if_pos h0]at PS PR FS FR;refine gE func4 ntmps4 results4 ?_
   (refine ag ?_;intro K hK K hK K hK)
   ((iterate 3 revert K);refine aM GR ?_;intro K hK K hK)
   (revert K;revert K;refine aM LX ?_;intro K hK K hK)
   (revert K;revert K;refine aM LE ?_;intro K hK K hK)
   (revert K;revert K;refine aM PS ?_;intro K hK K hK)
   (revert K;revert K;refine aM PR ?_;intro K hK K hK)
   (revert K;revert K;refine aM FS ?_;intro K hK K hK)
   refine ah.one FR ?_
   repeat(first|(with_reducible first|refine bA.up ?_|refineλ(K:AK)hK=>?_|(refine hK _ ?_;clear hK K))|simp only[go_sem,beq_self_eq_true,Go.undef]|with_reducible refine wA ?_|clear hK K)
   (revert K;revert K;refine jc S1 ?_;intro K hK K hK)
   (revert K;revert K;refine jc S2 ?_;intro K hK K hK)
   (revert K;revert K;refine jc VS ?_;intro K hK K hK)
   (revert K;revert K;refine jc VR ?_;intro K hK K hK)
   (revert K;revert K;refine jc SV ?_;intro K hK K hK)
   (revert K;revert K;refine jc KX ?_;intro K hK K hK)
   (revert K;revert K;refine jc KE ?_;intro K hK K hK)
   (revert K;revert K;exact Ip W)
  ·rw[if_neg h0]at PS PR FS FR;refine gE func4 ntmps4 results4 ?_
   (refine ag ?_;intro K hK K hK K hK)
   ((iterate 3 revert K);refine aM GR ?_;intro K hK K hK)
   (revert K;revert K;refine aM LX ?_;intro K hK K hK)
   (revert K;revert K;refine aM LE ?_;intro K hK K hK)
   (revert K;revert K;refine aM PS ?_;intro K hK K hK)
   (revert K;revert K;refine aM PR ?_;intro K hK K hK)
   (revert K;revert K;refine aM FS ?_;intro K hK K hK)
   refine ah.one FR ?_
   repeat(first|(with_reducible first|refine bA.up ?_|refineλ(K:AK)hK=>?_|(refine hK _ ?_;clear hK K))|simp only[go_sem,beq_self_eq_true,Go.undef]|with_reducible refine wA ?_|clear hK K)
   (revert K;revert K;refine jc S0 ?_;intro K hK K hK)
   (revert K;revert K;refine jc S0 ?_;intro K hK K hK)
   (revert K;revert K;refine jc VS ?_;intro K hK K hK)
   (revert K;revert K;refine jc VR ?_;intro K hK K hK)
   (revert K;revert K;refine jc SV ?_;intro K hK K hK)
   (revert K;revert K;refine jc KX ?_;intro K hK K hK)
   (revert K;revert K;refine jc KE ?_;intro K hK K hK)
   (revert K;revert K;exact Ip W)
 ·rw[U]at GR;rw[aB]at GR⊢;refine gE func4 ntmps4 results4 ?_
  (refine ag ?_;intro K hK K hK K hK)
  ((iterate 3 revert K);refine aM GR ?_;intro K hK K hK K hK)
  ((iterate 3 revert K);exact lH W)
section
def D9(e:bH):C5:=ND e.bN e.to e.label e.time
structure Vf(e:bH):Prop where
 none:e.props=[]
 ok:e.ok
theorem Wj{e:bH}(h:Vf e):xx (D9 e) (aU e):=by
 obtain⟨a,b,l,t,ps⟩:=e;obtain⟨rfl,_⟩:=h;exact Ig a b l t
theorem vF(n:Nat)(l:IR):bE n (l.map D9)=true:=bt _ (λ_=>rfl) l
attribute [go_sem] vF
theorem Fg{l:IR}{i:Nat}(h:i<l.length):(l.map D9).getD i []=ND l[i].bN l[i].to l[i].label l[i].time:=getD_map D9 l i [] h
theorem VD(x:Ex)(E:IR)(f:ByteArray)(A:x.ok)(u:∀e∈E,Vf e)(hl:E.length<=1000)(X:C5)(H:xx X (aP x))(wx:aQ 0 X=true):aj prog 4 [.agg X,.aA 5 (E.map D9) E.length,.v (.string f)] (.v (.bool true)):=by
 have h:=yE x E f A (λe q=>(u e q).ok) zd;refine h.le (by simp only[aQ,AV.wf,wx,vF,Bool.and_self]) (.cons H.agg (.cons ?_ (.cons (.refl _) .nil)))
 have:=Le.rows (z:=5) (f:=D9) (g:=aU) (xs:=E) (more:=[]) (λe q=>Wj (u e q))
 rwa [List.append_nil]at this
theorem WW(x:Ex)(E:IR)(f:ByteArray)(q:x.ok)(u:∀e∈E,Vf e)(hl:E.length<=1000)(wx:aQ 0 (mC x)=true):aj prog 4 [.agg (mC x),.aA 5 (E.map D9) E.length,.v (.string f)] (.v (.bool true)):=VD x E f q u hl _ (Kd x) wx
theorem VC(x:Ex)(f:ByteArray)(q:x.ok)(wx:aQ 0 (mC x)=true):aj prog 4 [.agg (mC x),.v (.slice none 0 0),.v (.string f)] (.v (.bool true)):=
 (WW x [] f q zk zk wx).le (by simp only[aQ,AV.wf,wx,Bool.and_self]) (.cons (.refl _) (.cons (.nil 5) (.cons (.refl _) .nil)))
def tz:ByteArray:=⟨#[122]⟩
def ty:ByteArray:=⟨#[121]⟩
def lX:Ex:=Vq tx
def lY:Ex:=Vq ty
def Jn(x:Ex):Ex:= .mk 4 ⟨#[]⟩ [x]
def E8:IO:=[lX,Jn lX,.mk 5 ⟨#[]⟩ [.mk 3 ⟨#[]⟩ [lX,lY]],.mk 2 ⟨#[]⟩ [lX,lX,lY],.mk 6 ⟨#[]⟩ [.mk 2 ⟨#[]⟩ [lX,Jn lY]],.mk 2 ⟨#[]⟩ [Jn lX,lY],Vq tz,Jn (Vq tz)]
def G6:IR:=[⟨ta,tb,tx,3,[]⟩,⟨tb,tc,tx,5,[]⟩,⟨tc,ta,ty,4,[]⟩,⟨ta,tc,tx,2,[]⟩,⟨tb,tb,ty,1,[]⟩,⟨ta,tb,tx,6,[]⟩]
def G4:IR:=[⟨⟨#[]⟩,tb,tx,1,[]⟩,⟨ta,tb,tx, -1,[]⟩,⟨ta,tb,⟨#[109,97,116,99,104]⟩, -1,[]⟩,⟨ta,tb,tx,1099511627777,[]⟩]
theorem O2{a b l:ByteArray}{t:Int}(H:a.size<=100)(A:b.size<=100)(u:l.size<=100):Vf ⟨a,b,l,t,[]⟩:=⟨rfl,FV H,FV A,FV u,λp q=>(by cases q),zk⟩
theorem Vg:∀e∈G6,Vf e:=λe q=>by
 simp only[G6,afO,af1,or_false]at q
 rcases q with rfl|rfl|rfl|rfl|rfl|rfl<;>exact O2 zs zs zs
theorem Yv:∀e∈G4,Vf e:=λe q=>by
 simp only[G4,afO,af1,or_false]at q
 rcases q with rfl|rfl|rfl|rfl<;>exact O2 zs zs zs
theorem JI:∀x∈E8,x.ok∧aQ 0 (mC x)=true:=λx q=>by
 simp only[E8,afO,af1,or_false]at q
 rcases q with rfl|rfl|rfl|rfl|rfl|rfl|rfl|rfl<;>refine⟨?_,rfl⟩<;>simp[lX,lY,Jn,Vq,Ex.ok,q8,wI,ByteArray.size,tx,ty,tz]
theorem z7:aj prog 5 [] (.v (.bool true)):=by
 have W:=Aw;refine gE func5 ntmps5 results5 ?_
 (refine bc ?_;intro K hK K hK)
 iterate 6 (refine ah.one (nq _ _ _ _) ?_;repeat(first|(with_reducible first|refine bA.up ?_|refineλ(K:AK)hK=>?_|refine wD ?_|(refine hK _ ?_;clear hK K))|simp only[go_sem]|with_reducible refine wA ?_|clear hK K))
 iterate 2 (refine ah.one (u9 _) ?_;repeat(first|(with_reducible first|refine bA.up ?_|refineλ(K:AK)hK=>?_|refine wD ?_|(refine hK _ ?_;clear hK K))|simp only[go_sem]|with_reducible refine wA ?_|clear hK K))
 iterate 9 (refine bQ.one (yX _ _ _ rfl) ?_;repeat(first|(with_reducible first|refine bA.up ?_|refineλ(K:AK)hK=>?_|refine wD ?_|(refine hK _ ?_;clear hK K))|simp only[go_sem]|with_reducible refine wA ?_|clear hK K))
 iterate 2 (refine bQ.one (u9 _) ?_;repeat(first|(with_reducible first|refine bA.up ?_|refineλ(K:AK)hK=>?_|refine wD ?_|(refine hK _ ?_;clear hK K))|simp only[go_sem]|with_reducible refine wA ?_|clear hK K))
 refine bQ.one (yX _ _ _ rfl) ?_
 repeat((fail_if_success (with_reducible refine ku (i:=4) ?_));first|(with_reducible first|refine bA.up ?_|refineλ(K:AK)hK=>?_|(refine hK _ ?_;clear hK K))|simp only[go_sem]|with_reducible refine wA ?_|clear hK K)
 refine me [0,1] (bN 151 [(1,.vec 0 6),(2,.ptr 1 0 3 0 0),(4,.aA 3 (E8.map mC) 8)]) [some ⟨35,5,true,G6.map D9⟩,some ⟨25,3,false,[[.v (.int .i64 1),.v (.string ⟨#[120]⟩),.v (.slice none 0 0)]]⟩] zk rfl ?_ ?_ zo ?_
 ·intro k ob A
  match k,A with
  |0,A=>cases A;exact vF _ _
  |1,A=>cases A;rfl
  |k+2,A=>simp at A
 ·simp only[bN,afD,afE,afJ,afK,go_sem];simp only[pA,AV.bb,sig,go_sem];simp;exact⟨by rw[bj _ _ rfl];rfl,rfl⟩
 simp only[bN,afD,afE,afJ,afK,go_sem];have eN8:(E8.map mC).length=8:=rfl;have eN6:(G6.map D9).length=6:=rfl;have eG:=λi(h:i<6)=>Fg (l:=G6) (i:=i) h;have u:∀n,bE n (E8.map mC)=true:=λn=>rfl
 have hPT:∀i,i<8->∃a b c,(E8.map mC).getD i []=[a,b,c]∧∀(L:IR)f,(∀e∈L,Vf e)->L.length<=1000->aj prog 4 [.agg [a,b,c],.aA 5 (L.map D9) L.length,.v (.string f)] (.v (.bool true)):=λi h=>by
  obtain⟨q1,q2⟩:=JI E8[i] (afm h)
  obtain⟨a,b,c,hc⟩:∃a b c,mC E8[i]=[a,b,c]:=by
   cases E8[i];exact⟨_,_,_,by rw[mC]⟩
  refine⟨a,b,c,by rw[getD_map mC E8 i [] h,hc],λL f hL hl=>?_⟩
  have:=WW E8[i] L f q1 hL hl q2
  rwa [hc]at this
 generalize hX:E8.map mC=X at *
 (revert K;revert K;refine bc ?_;intro K hK)
 refine aZ (ι:=Nat) 54 (λm=>[(5,.v (.int .i64 (m:Nat))),(6,.undef),(7,.undef),(8,.undef)]) (λm=>64-m) (λm=>m<=64) 0 (aen _) ?_ ?_
 ·refine ab (bF ?_) ar ar
  all_goals first|exact⟨u _,rfl⟩|rfl
 ·intro m hm K hK
  rcases aei m 64 with h|h
  ·have d1:decide ((m:Int)<64)=true:=b0;have ws:=ae (k:=m) zd
   (revert K;revert K;refine aG d1 ?_;iterate 4 intro K hK)
   refine fN (ι:=IR×Nat) 6 35 5 rfl zs 58 (λz=>[(6,.vec 2 z.1.length),(7,.v (.int .i64 (z.2:Nat)))]) (λz=>[some ⟨35,5,true,G6.map D9⟩,some ⟨25,3,false,[[.v (.int .i64 1),.v (.string ⟨#[120]⟩),.v (.slice none 0 0)]]⟩,some ⟨35,5,true,z.1.map D9⟩]) (λz=>6-z.2) (λz=>z.2<=6∧z.1.length<=z.2∧∀e∈z.1,Vf e) ([],0) ⟨aen _,Nat.le_refl _,λe H=>by cases H⟩ ?_ ?_
   ·refine ab (bF ?_) ar ar
    all_goals first|exact⟨u _,rfl⟩|rfl
   ·rintro⟨L,k⟩ ⟨A,hLl,O⟩ K hK;simp only at A hLl O⊢
    have eL:(L.map D9).length=L.length:=zk
    rcases aei k 6 with h2|h2
    ·have d2:decide ((k:Int)<6)=true:=b0;have ws2:=ae (k:=k) zd;have eGk:=eG k h2;have hGk:=Vg G6[k] (afm h2)
     have hb1:(L.length+1)*80<=140737488355328:=zd
     have hb2:L.length<=140737488355327:=zd
     simp only[ND]at eGk
     ((iterate 5 revert K);refine aG d2 ?_;iterate 6 intro K hK)
     refine cn.part (λ_=>?_) (λ_=>?_)
     ·((iterate 6 revert K);refine aG (nU eGk eN6 eL hb1 hb2 ws2) ?_)
      refine aw.mk (L++[G6[k]],k+1) ⟨h2,ahn,λe H=>?_⟩ (show 6-(k+1)<6-k by omega) ?_
      ·rcases List.mem_append.1 H with q|q
       ·exact O e q
       ·rw[List.mem_singleton.1 q];exact hGk
      ·have eW:=λn=>vF n (L++[G6[k]]);simp only[List.map_append,List.map_cons,List.map_nil,List.length_append,List.length_cons,List.length_nil,D9,ND]at eW⊢;refine ab (bF ?_) ar ar
       all_goals first|exact u _|rfl
     ·((iterate 6 revert K);refine aG ws2 ?_)
      refine aw.mk (L,k+1) ⟨h2,Nat.le_succ_of_le hLl,O⟩ (show 6-(k+1)<6-k by omega) ?_;refine ab (bF ?_) ar ar
      all_goals first|exact u _|rfl
    ·have hin:k=6:=zd
     have d2:decide ((k:Int)<6)=false:=bi
     repeat((fail_if_success (with_reducible refine ku (i:=13) ?_));first|(with_reducible first|refine bA.up ?_|refineλ(K:AK)hK=>?_|(refine hK _ ?_;clear hK K))|simp only[go_sem,d2]|with_reducible refine wA ?_|clear hK K)
     refine bn (fP 6 2 rfl rfl rfl eL) zo ?_;simp only[List.set_cons_zero,List.set_cons_succ]
     ((iterate 4 revert K);refine bc ?_;intro K hK K hK K hK)
     refine aZ (ι:=Nat) 74 (λi=>[(8,.v (.int .i64 (i:Nat)))]) (λi=>8-i) (λi=>i<=8) 0 (aen _) ?_ ?_
     ·refine ab (bF ?_) ar ar
      all_goals first|exact⟨u _,rfl⟩|rfl
     ·intro i hi K hK
      rcases aei i 8 with Y|Y
      ·have d3:decide ((i:Int)<((8:Nat):Int))=true:=b0;have U:=ae (k:=i) zd;obtain⟨a,b,c,eEi,PT⟩:=hPT i Y;have eR:Int.tmod (m:Int) 4=((m % 4:Nat):Int):=rfl;have hm4:m % 4<4:=Nat.mod_lt _ zd
       obtain⟨s,hs⟩:∃s,([[AV.v (.string ⟨#[97]⟩)],[.v (.string ⟨#[98]⟩)],[.v (.string ⟨#[99]⟩)],[.v (.string ⟨#[100]⟩)]]:List C5).getD (m % 4) []=[.v (.string s)]:=by
        generalize m % 4=r at hm4⊢
        match r,hm4 with
        |0,_=>exact⟨_,rfl⟩
        |1,_=>exact⟨_,rfl⟩
        |2,_=>exact⟨_,rfl⟩
        |3,_=>exact⟨_,rfl⟩
       ((iterate 4 revert K);refine aG (pt d3 eEi eR hs) ?_;iterate 7 intro K hK)
       ((iterate 7 revert K);refine pL (PT L s O zd) U ?_)
       refine aw.mk (i+1) Y (show 8-(i+1)<8-i by omega) ?_;refine ab (bF ?_) ar ar
       all_goals first|exact u _|rfl
      ·have d3:decide ((i:Int)<((8:Nat):Int))=false:=bi
       ((iterate 4 revert K);refine aG (q9 d3 ws) ?_)
       refine aw.mk (m+1) h (show 64-(m+1)<64-m by omega) ?_;refine ab (bF ?_) ar ar
       all_goals first|exact u _|rfl
  ·have d1:decide ((m:Int)<64)=false:=bi
   (revert K;revert K;refine aG d1 ?_;intro K hK K hK)
   iterate 3 (refine ah.one (nq _ _ _ _) ?_;repeat(first|(with_reducible first|refine bA.up ?_|refineλ(K:AK)hK=>?_|refine wD ?_|(refine hK _ ?_;clear hK K))|simp only[go_sem]|with_reducible refine wA ?_|clear hK K))
   refine ah.one (nq _ _ _ _) ?_
   repeat((fail_if_success (with_reducible refine ku (i:=19) ?_));first|(with_reducible first|refine bA.up ?_|refineλ(K:AK)hK=>?_|(refine hK _ ?_;clear hK K))|simp only[go_sem]|with_reducible refine wA ?_|clear hK K)
   refine me [0,1,2] (bN 151 [(1,.vec 0 6),(2,.ptr 1 0 3 0 0),(4,.aA 3 X 8),(9,.vec 2 4)]) [some ⟨35,5,true,G6.map D9⟩,some ⟨25,3,false,[[.v (.int .i64 1),.v (.string ⟨#[120]⟩),.v (.slice none 0 0)]]⟩,some ⟨35,5,true,G4.map D9⟩] zk ?_ ?_ ?_ zo ?_
   ·rfl
   ·intro k ob A
    match k,A with
    |0,A=>cases A;exact vF _ _
    |1,A=>cases A;rfl
    |2,A=>cases A;exact vF _ _
    |k+3,A=>simp at A
   ·simp only[bN,afD,afE,afJ,afK,go_sem];simp only[pA,AV.bb,sig,go_sem];simp;exact⟨(bj _ _ (u 0)).symm,u 3⟩
   simp only[bN,afD,afE,afJ,afK,go_sem];have eN4:(G4.map D9).length=4:=rfl;have eB:=λi(h:i<4)=>Fg (l:=G4) (i:=i) h;have V:=λi(h:i<4)=>Yv G4[i] (afm h);have eG0:=eG 0 zd;simp only[ND]at eB eG0
   (revert K;revert K;refine bc ?_;intro K hK)
   refine aZ (ι:=Nat) 97 (λi=>[(10,.v (.int .i64 (i:Nat)))]) (λi=>16-i) (λi=>i<=16) 0 (aen _) ?_ ?_
   ·refine ab (bF ?_) ar ar
    all_goals first|exact⟨u _,rfl⟩|rfl
   ·intro i hi K hK
    rcases aei i 16 with Y|Y
    ·have d3:decide ((i:Int)<16)=true:=b0;have U:=ae (k:=i) zd;have r8:Int.tmod (i:Int) 8=((i % 8:Nat):Int):=rfl;have r4:Int.tmod (i:Int) 4=((i % 4:Nat):Int):=rfl;have r5:Int.tdiv (i:Int) 4=((i / 4:Nat):Int):=rfl;obtain⟨a,b,c,eEi,PT⟩:=hPT (i % 8) zd;have eB1:=eB (i % 4) zd;have eB2:=eB (i / 4) zd;have g6:G6.length=6:=rfl;have g4:G4.length=4:=rfl
     have i4:i % 4<G4.length:=zd
     have j4:i / 4<G4.length:=zd
     have w4:=bS (n:=((i / 4:Nat):Int)) zd zd
     have P1:=PT [G6[0],G4[i % 4],G4[i / 4]] ⟨#[97]⟩ (λe H=>by
      simp only[afO,af1,or_false]at H
      rcases H with rfl|rfl|rfl
      ·exact Vg _ (afm _)
      ·exact V _ i4
      ·exact V _ j4) zk
     have P2:=VD (.mk 4 ⟨#[]⟩ []) [G4[i % 4]] ⟨#[]⟩ (by simp[Ex.ok,q8,wI,ByteArray.size]) (λe H=>by cases List.mem_singleton.1 H;exact V _ i4) zk [.v (.int .i64 4),.v (.string ⟨#[]⟩),.aA 3 [] 0] (by rw[aP];exact .refl _) rfl;simp only[List.map_cons,List.map_nil,D9,ND,List.length_cons,List.length_nil,mC,AI,List.isEmpty_nil,if_true]at P1 P2
     repeat(first|(with_reducible first|refine bA.up ?_|refineλ(K:AK)hK=>?_|refine wD ?_|(refine hK _ ?_;clear hK K))|simp only[go_sem,d3,r8,r4,r5,eG0,eEi,eB1,eB2,g6,g4,w4]|with_reducible refine wA ?_|clear hK K)
     ((iterate 5 revert K);refine kE P1 ?_;iterate 5 intro K hK)
     refine bQ.one (aj.le (args':=[.v (.int .i64 4),.v (.slice none 0 0)]) (yX 4 [] 0 rfl) rfl (.cons (.refl _) (.cons (.nil 3) .nil))) ?_
     ((iterate 5 revert K);refine aG (mQ r4 eB1 g4) ?_;iterate 5 intro K hK)
     ((iterate 5 revert K);refine pL P2 U ?_)
     refine aw.mk (i+1) Y (show 16-(i+1)<16-i by omega) ?_;refine ab (bF ?_) ar ar
     all_goals first|exact u _|rfl
    ·have d3:decide ((i:Int)<16)=false:=bi
     (revert K;revert K;refine aG d3 ?_;intro K hK K hK)
     have P3:=VC lX ⟨#[]⟩ (JI lX (by simp[E8])).1 rfl;have P4:=VC (Jn lX) ⟨#[97]⟩ (JI (Jn lX) (by simp[E8])).1 rfl
     (revert K;revert K;refine kE P3 ?_;intro K hK K hK)
     (revert K;revert K;refine kE (yX _ _ _ rfl) ?_;intro K hK K hK)
     (revert K;revert K;refine kE P4 ?_;intro K hK K hK)
     iterate 2 (refine bQ.one (nq _ _ _ _) ?_;repeat(first|(with_reducible first|refine bA.up ?_|refineλ(K:AK)hK=>?_|refine wD ?_|(refine hK _ ?_;clear hK K))|simp only[go_sem]|with_reducible refine wA ?_|clear hK K))
     have P5:=WW lX [⟨ta,ta,tx,0,[]⟩,⟨ta,ta,tx,1099511627776,[]⟩] ⟨#[97]⟩ (JI lX (by simp[E8])).1 (λe H=>by
      simp only[afO,af1,or_false]at H
      rcases H with rfl|rfl<;>exact O2 zs zs zs) zk rfl
     (revert K;revert K;refine kE P5 ?_;intro K hK K hK)
     (revert K;revert K;exact Pl W)
end
end Go.Proofs.YtlhhccmopfamhaaGreatDoor
