/- 'kinescopelaw15.PathTells': for every input the call returns true and all read behind it as before. Three tables (two of math/bits, one of internal/strconv) are laid, and tied to the program's text. No condition beyond the row's own: the reading ends, and no text or slice that came in is longer than the form's reach. -/
import Derived.Test.YtlhhccmopfamhaaGreatDoorQGo
import Derived.Test.YtlhhccmopfamhaaGreatDoorQOfK
import Derived.Test.YtlhhccmopfamhaaGreatDoorQDfaQ
import Derived.Test.YtlhhccmopfamhaaGreatDoorProg
import Derived.Test.YtlhhccmopfamhaaGreatDoorQFen
import Derived.Test.YtlhhccmopfamhaaGreatDoorQExprC
import Derived.Test.YtlhhccmopfamhaaGreatDoorQRefP
import Derived.Test.YtlhhccmopfamhaaGreatDoorQEdgW
import Derived.Test.YtlhhccmopfamhaaGreatDoorQDfaK
import Derived.Test.YtlhhccmopfamhaaGreatDoorQValue
import Derived.Test.YtlhhccmopfamhaaGreatDoorQRef07b
import Derived.Sort.Walk0
import Derived.Test.YtlhhccmopfamhaaGreatDoorQMat
import Derived.WalkKit
import Derived.ProofKit
import Derived.OpenShut
import Derived.Stop.Joined
set_option linter.unusedSimpArgs false
set_option linter.unusedVariables false
set_option maxRecDepth 100000
set_option maxHeartbeats 16000000
open Bool renaming and_true -> afo, and_self -> agA, true_and -> afu, eq_iff_iff -> agj, not_true -> ahx
open List renaming map_cons -> aga, map_nil -> agE, length_cons -> afa, length_nil -> aeq, cons_append -> afK, nil_append -> afJ, set_cons_zero -> afS, length_append -> aew, getElem?_map -> aeE, getElem?_cons_succ -> afE, getD_eq_getElem?_getD -> ae2, append_assoc -> agI, map_map -> agM, length_map -> agG, replicate_succ -> afU, map_append -> agY, getElem?_append_right -> aeK, length_singleton -> agK, getElem?_eq_getElem -> aeC, take_succ_eq_append_getElem -> agO, getElem_map -> ags, mem_append_left -> af8, set_cons_succ -> afR, mem_singleton -> age, getElem_mem -> afy, getElem?_eq_none -> ahs, take_length -> agP, length_take -> aht, replicate_zero -> afV, getElem?_eq_some_iff -> aeu, append_nil -> agy, length_filterMap_le -> ahw, foldl_cons -> afO, foldl_nil -> afP, getElem?_cons_zero -> afD, getElem?_append_left -> aet
open Nat renaming zero_le -> aex, sub_self -> afc, lt_add_one -> agB, zero_lt_one -> agC, zero_lt_succ -> ag4, lt_or_ge -> aes, mul_le_mul_right -> aey, lt_or_eq_of_le -> ahv
open Option renaming map_some -> aeO, map_none -> ahi, toList_some -> ahu
open Option.some renaming inj -> aem
namespace Go.Proofs.YtlhhccmopfamhaaGreatDoor
open Go.RowKit
open Go.Proofs.Tryz
theorem WB(x:Ex)(H:aD x=true)(V:(aq x).length<=1000000)(A:∀z,z∈aq x->z.kids.length<=1000000∧z.label.size<=1000000000000000):OfC x:=by
 induction x using Ex.ind with
 |h k s l ih=>
  have q:∀x,x∈l->∀z,z∈aq x->z∈aq (.mk k s l):=λx u z A=>by
   rw[aq,bN];exact List.mem_cons_of_mem _ (List.mem_flatMap.2 ⟨x,u,A⟩)
  by_cases U:k=1
  ·subst U
   have hl:l=[]:=by
    have:=(fO H).1
    cases this with
    |lab s=>rfl
    |many k s l h _ _=>omega
    |one k s x h _=>omega
   subst hl;exact WE s H A
  ·refine Ud k U s l H V A λx u=>ih x u (oA H x u) ?_ (λz O=>A z (q x u z O))
   have:=iP (.mk k s l) x (q x u x (by obtain⟨Y,s',W⟩:=x;rw[aq];exact List.mem_cons_self))
   omega
theorem tP(p k N:Nat):∀m,cm (λj=>p+j) (bu k N m)=bu (p+k) N m
 |0=>rfl
 |m+1=>by
  rw[fy,fy,vg,tP p k N m];simp only[bV,AV.ba,mV];rw[show p+(k+1+2*m)=p+k+1+2*m by omega]
theorem Bq(g:Nat->Nat)(N:Nat)(f:GT):∀m,(bA N f m).map (Option.map (aa.ba g))=bA N f m
 |0=>rfl
 |m+1=>by
  rw[gd,List.map_append,Bq g N f m];simp only[aga,agE,l6,aeO,ahi,aa.ba,mi]
theorem F4(x:Ex)(labs:B0)(n:Nat)(f:GT):(dt 0 x labs n f).map (Option.map (aa.ba (λj=>1+j)))=dt 1 x labs n f:=by
 rw[dt,dt,cA,cA];simp only[aga,Bq,aeO,aa.ba,tP,ve,cm,pb,bV,AV.ba,bn _ _ (bF 0 x.kids)]
theorem ai.ab9{F:FuncId}{args:C5}{A:AV}{K:AV->AC->Prop}{y:Ex}{labs labs':B0}{n:Nat}{f f':GT}{xb:aa}
  (h:bR prog F (.ptr 0 0 8 0 0::args) (dt 0 y labs n f) A (dt 0 y labs' n f'))(u:∀m,aU m args=true)(H:∀m,A.wf m=true)
  (k:K A (some xb::dt 1 y labs' n f')):ai prog F (.ptr 1 0 8 0 0::args) (some xb::dt 1 y labs n f) K:=by
 have O:∀k,k<0->(λj=>1+j) k=k:=λk h=>zd
 have q:ai prog F (bV (λj=>[some xb].length+j) (.ptr 0 0 8 0 0::args)) ([some xb]++(dt 0 y labs n f).map (Option.map (aa.ba (λj=>[some xb].length+j)))++[]) K:=by
  refine ai.ach (o1:=dt 0 y labs' n f') (pre:=[some xb]) (post:=[]) h (by rw[cC,cC]) ?_ (lf (by rw[cC];omega)) (lf (by rw[cC];omega)) (H _) ?_
  ·rw[aU,u,afo,AV.wf];exact decide_eq_true (by rw[cC];omega)
  ·simp only[afa,aeq,Nat.zero_add,List.append_nil,F4,vi O A (H 0),afK,afJ];exact k
 simp only[afa,aeq,Nat.zero_add,List.append_nil,F4,bV,jT O args (u 0),AV.ba,afK,afJ,Nat.add_zero]at q;exact q
noncomputable def zg(x:Ex):C5:=[.aB 1 ((aH x).map encS) (aH x).length,.aB 1 (dK (aH x).length (mA x 0)) (aH x).length,.aB 1 (dK (aH x).length (gK x 0)) (aH x).length,.aB 1 (mC (aH x).length (mz x 0)) (aH x).length,.v (.bool (cH x)),.v (.int .i64 x.kind),.v (.string x.label),.aB 3 (x.kids.map aN) x.kids.length]
theorem lg(n:Nat)(x:Ex):aU n (zg x)=true:=by
 simp only[zg,aU,AV.wf,bz,bp,gM,bF,agA]
theorem Ua(x:Ex)(u:(aq x).length<=1000000)(U:∀z,z∈aq x->z.kids.length<=1000000∧z.label.size<=1000000000000000) :
  aj prog 139 [.agg (aN x)] (if aD x then .ck [.vp (zg x),.v (.int .i64 0)]else .ck [.v (.pointer none),.v (.int .i64 2)]):=by
 have R:=qE x u U;have E:=uG x u U
 cases A:aD x
 ·rw[A]at R;simp only[Bool.false_eq_true,if_false];simp only[aA]at *;refine gE func139 ntmps139 results139 ?_
  (refine ae ?_;intro K hK K hK K hK)
  ((iterate 3 revert K);refine aK R ?_)
  (refine iG.of 40 rfl ?_;simp only[go_sem])
 ·rw[A]at R;simp only[if_true];have hnl:(aH x).length<=24:=uZ A;have M:=P5 x A;have O:=WB x A u U x [] (aH x).length (λ_ _=>false) zd zk;simp only[afJ,aeq,Bool.false_or]at O
  have hF:(AV.ck [.vp (zg x),.v (.int .i64 0)]).wf 0=true:=by simp only[AV.wf,aU,lg,agA]
  have hA:aU 0 [AV.agg (aN x)]=true:=by simp only[AV.wf,aU,fp,agA]
  generalize W:AV.ck [.vp (zg x),.v (.int .i64 0)]=rv at hF;simp only[aA]at R E M O hA⊢
  (refine aj.iA func139 rfl zo zo rfl hA hF ?_;simp only[ntmps139,results139,afa,aeq,Nat.reduceAdd,Nat.reduceSub,List.replicate_succ,List.replicate_zero,afK,afJ])
  (refine ae ?_;intro K hK K hK K hK)
  refine ai.one R ?_
  ((iterate 3 revert K);refine dG 3 ?_;intro K hK)
  refine bE [4] [] za zo ?_
  (revert K;refine ae ?_;intro K hK K hK)
  refine b8.one E ?_
  (revert K;revert K;refine dG 4 ?_;intro K hK K hK)
  refine bl (dT (k:=1) (i:=0) (j:=0) 9 1 zs rfl (show 0<8 by decide) rfl rfl) zo ?_;simp only[afa,aeq,Nat.reduceAdd,afK,afJ,afS,List.set_cons_succ];refine bl (dT (k:=1) (i:=0) (j:=3) 121 1 zs rfl (show 0<8 by decide) rfl rfl) zo ?_;simp only[afa,aeq,Nat.reduceAdd,afK,afJ,afS,List.set_cons_succ]
  (revert K;revert K;refine ae ?_;intro K hK K hK K hK)
  ((iterate 3 revert K);refine aK M ?_;intro K hK)
  generalize hn:(aH x).length=n at *
  refine aO (ι:=Nat) 7 (λm=>[(5,.v (.int .i64 (n-m:Nat)))]) (λm=>some ⟨25,3,false,[[.v (.int .i64 x.kind),.v (.string x.label),.aB 3 (x.kids.map aN) x.kids.length]]⟩ ::some ⟨221,8,false,[[.vec 2 0,.v (.slice none 0 0),.v (.slice none 0 0),.vec 3 m,.v (.bool (cH x)),.v (.int .i64 x.kind),.v (.string x.label),.aB 3 (x.kids.map aN) x.kids.length]]⟩ ::some ⟨9,1,true,[]⟩ ::cA 3 n m (λ_ _=>false)) (λm=>n-m) (λm=>m<=n) 0 zd ?_ ?_
  ·have q:∀j,j<4->decide (j<(cA 3 n 0 (λ_ _=>false)).length+1+1+1)=true:=λj hj=>decide_eq_true (by rw[jj];omega)
   refine ab (bJ ?_) (bJ ?_) ar
   ·exact⟨q 0 zd,q 1 zd⟩
   ·refine⟨by rw[q 2 zd,q 3 zd];rfl,?_⟩;exact GL (by rw[jj];omega)
  ·intro m hm K hK;simp only[cA]
   (revert K;revert K;refine dG 7 ?_;intro K hK K hK K hK)
   refine cn.part (λh=>?_) (λh=>?_)
   ·have hlt:m<n:=by replace h:=cq h;omega
    have eW:IntKind.i64.wrap (((n-m:Nat):Int)-1)=((n-(m+1):Nat):Int):=by rw[bT zd zd];omega
    have eL:List.replicate n [AV.v (.bool false)]=dK n (λ_=>false):=lu n
    ((iterate 3 revert K);refine dG 7 ?_;intro K hK K hK K hK)
    refine bE [7,8,9,12] [(4,1009)] za zo ?_;have g1:=λtl j=>SE (ah n (λ_ _=>false) m) tl j;have g0:=λtl=>xH (ah n (λ_ _=>false) m) tl;have s1:=λtl j x=>SG (ah n (λ_ _=>false) m) tl j x;have s0:=λtl x=>xI (ah n (λ_ _=>false) m) tl x
    ((iterate 3 revert K);refine ae ?_;iterate 4 intro K hK)
    refine b8.one M ?_
    repeat(first|(with_reducible first|refine bG.up ?_|refineλ(K:AK)hK=>?_|refine au zs ?_|refine ay zs ?_|(refine hK _ ?_;clear hK K))|simp only[go_sem,eL,g1,g0,s1,s0,ah,aew]|with_reducible refine wA ?_|(refine aP rfl rfl ?_)|(refine aE rfl ?_)|clear hK K)
    repeat(first|(with_reducible first|refine bG.up ?_|refineλ(K:AK)hK=>?_|refine au zs ?_|refine ay zs ?_|(refine hK _ ?_;clear hK K))|simp only[go_sem,eW,eL,g1,g0,s1,s0,ah,aew]|with_reducible refine wA ?_|(refine aP rfl rfl ?_)|(refine aE rfl ?_)|clear hK K)
    refine aw.mk (m+1) zd zd (ab ?_ ?_ ?_)
    ·have q:∀j,j<4->decide (j<(cA 3 n (m+1) (λ_ _=>false)).length+1+1+1)=true:=λj hj=>decide_eq_true (by rw[jj];omega);simp only[afa];simp only[go_sem,iV,true_or,or_true,true_and,and_true];exact⟨.inr (q 0 zd),.inr (q 1 zd)⟩
    ·have q:∀j,j<4->decide (j<(cA 3 n (m+1) (λ_ _=>false)).length+1+1+1)=true:=λj hj=>decide_eq_true (by rw[jj];omega)
     have H:(cA 3 n (m+1) (λ_ _=>false)).length+1+1+1=2*(m+1)+4:=by rw[jj]
     have V:bD (2*(m+1)+4) (bu 3 n (m+1))=true:=lX zd
     have Y:bu 3 n (m+1)=bu 3 n m++[[.vec (2*m+1+1+1+1) n]]:=by rw[fy,show mV 3 m=2*m+1+1+1+1 by unfold mV;omega]
     simp only[afa];refine⟨.inr ⟨rfl,λob e=>by cases e;simp only[bD,aU,AV.wf,bF,agA]⟩,.inr ⟨rfl,λob e=>by cases e;simp only[bD,aU,AV.wf,bF,agA,q 2 zd,q 3 zd]⟩,.inr ⟨rfl,λob e=>by cases e;rfl⟩,?_⟩;rw[H];simp only[cA,gd];exact⟨.inr ⟨by rw[Y],λob e=>by cases e;exact V⟩,oN (λob h=>qc _ _ _ _ _ h) ⟨.inr ⟨rfl,λob e=>by cases e;exact bp _ _ _⟩,.inl rfl,trivial⟩⟩
    ·exact aex _
   ·have e1:m=n:=by replace h:=cq h;omega
    simp only[e1]
    ((iterate 3 revert K);refine dG 8 ?_;intro K hK)
    (revert K;refine ae ?_;intro K hK K hK)
    refine ai.ab9 (y:=x) (labs:=[]) (xb:=⟨25,3,false,[[.v (.int .i64 x.kind),.v (.string x.label),.aB 3 (x.kids.map aN) x.kids.length]]⟩) O (λk=>by simp only[aU,AV.wf,bF,agA]) (λk=>by simp only[AV.wf,aU,bp,agA]) ?_;simp only[dt,cA,pb,agE,aeq,Nat.reduceAdd];have g1:=λf tl j=>nG n f tl j;have g0:=λf tl=>tj n f tl;have s1:=λf tl j x=>nS n f tl j x;have s0:=λf tl x=>tq n f tl x
    repeat(first|(with_reducible first|refine bG.up ?_|refineλ(K:AK)hK=>?_|refine au zs ?_|refine ay zs ?_|(refine hK _ ?_;clear hK K))|simp only[go_sem,g1,g0,s1,s0,ah,aew]|with_reducible refine wA ?_|(refine aP rfl rfl ?_)|(refine aE rfl ?_)|clear hK K)
    rw[<-W];simp only[zg,hn];refine bB.ck ⟨bB.ptr (ob:=⟨221,8,false,[[.vec 2 n,.aB 1 (dK n (mA x 0)) n,.aB 1 (dK n (gK x 0)) n,.vec 3 n,.v (.bool (cH x)),.v (.int .i64 x.kind),.v (.string x.label),.aB 3 (x.kids.map aN) x.kids.length]]⟩) rfl rfl rfl (Nat.succ_ne_zero 7) ?_,bB.v _,trivial⟩;refine⟨bB.sg (ob:=⟨9,1,true,(aH x).map encS⟩) rfl rfl (by simp[encS,hn]) (bz 0 _),bB.Ab (bp 0 _ _),bB.Ab (bp 0 _ _),?_,bB.v _,bB.v _,bB.v _,bB.Ab (bF 0 _),trivial⟩;refine bB.U0 (ob:=⟨121,1,true,bu 3 n n⟩) rfl rfl (dC _ _ _) (by rw[w9];exact(dC _ _ _).symm) λi row row' u h2=>?_
    have hi:i<n:=by have:=(List.getElem?_eq_some_iff.1 u).1;rw[dC]at this;exact this
    have e1:(bu 3 n n)[i]?=some [.vec (mV 3 i) n]:=by rw[bu,aeE,List.getElem?_range hi];rfl
    have e2:(mC n (mz x 0))[i]?=some [.aB 1 (dK n (mz x 0 i)) n]:=by rw[mC,aeE,List.getElem?_range hi];rfl
    cases(aem (e1.symm.trans u));cases(aem (e2.symm.trans h2));refine⟨bB.sg (ob:=⟨4,1,true,dK n (mz x 0 i)⟩) ?_ rfl (kY _ _) (bp 0 _ _),trivial⟩;rw[show mV 3 i=2*i+1+1+1+1 by unfold mV;omega,afE,afE,afE,afE,List.getElem?_append_left (by rw[ah];omega)];exact uV hi
theorem Tn{l:B0}{i:Nat}(h:i<l.length):(l.map encS).getD i []=[.v (.string (l.getD i ⟨#[]⟩))]:=by
 rw[ae2,ae2,aeE,List.getElem?_eq_getElem h];rfl
theorem yb(N:Nat)(a b:Nat->Bool)(hn:N<=1000):bR prog 176 [.vec 0 N,.aB 1 (dK N b) N] [some ⟨4,1,true,dK N a⟩] (.vec 1 N) [some ⟨4,1,true,dK N a⟩,some ⟨4,1,true,dK N (λq=>a q||b q)⟩]:=by
 refine gF func176 ntmps176 results176 ?_
 have e0:List.replicate N [AV.v (.bool false)]=dK N (o6 a b 0):=by rw[lu];exact oG λq _=>by simp[o6]
 repeat(first|(with_reducible first|refine bG.up ?_|refineλ(K:AK)hK=>?_|(refine hK _ ?_;clear hK K))|simp only[go_sem,e0]|with_reducible refine wA ?_|clear hK K)
 refine aO (ι:=Nat) 10 (λi=>[(6,.v (.int .i64 i))]) (λi=>[some ⟨4,1,true,dK N a⟩,some ⟨4,1,true,dK N (o6 a b i)⟩]) (λi=>N-i) (λi=>i<=N) 0 zd ?_ ?_
 ·refine ab (bJ ?_) ar ar
  rfl
 ·intro i hi K hK
  (revert K;revert K;refine ae ?_;intro K hK K hK K hK)
  refine cn.part (λh=>?_) (λh=>?_)
  ·have u:i<N:=by replace h:=cq h;omega
   have eW:=ag (k:=i) zd;have eA:=dS (g:=a) u;have eB:=dS (g:=b) u;have eR:=dS (g:=o6 a b i) u;have eS:=λv=>tU (N:=N) (j:=i) (g:=o6 a b i) (v:=v);have eU:=AA a b i;cases A:a i
   all_goals
    simp only[A,Bool.false_or,Bool.true_or]at eU
    repeat(first|(with_reducible first|refine bG.up ?_|refineλ(K:AK)hK=>?_|(refine hK _ ?_;clear hK K))|simp only[go_sem,eW,eA,eB,A,eR,eS,eU,Go.undef]|with_reducible refine wA ?_|clear hK K)
    exact aw.mk (i+1) zd zd (by exact ab ar ar ar)
  ·have O:i=N:=by replace h:=cq h;omega
   have eE:dK N (o6 a b N)=dK N (λq=>a q||b q):=oG λq H=>by simp[o6,H]
   simp only[O]
   ((iterate 3 revert K);refine ae ?_)
   rw[eE];exact⟨ek,ek,ek⟩
   all_goals first|exact bp _ _ _|exact⟨bp _ _ _,bp _ _ _⟩|skip
noncomputable def zV(x:Ex)(p:Int)(q:Nat):Bool:=if p=0 then mA x 0 q else if 0<p∧p<=(aH x).length then mz x 0 (p.toNat-1) q else false
noncomputable def GS(x:Ex)(l:M2)(q:Nat):Bool:=l.any (λp=>zV x p q)
theorem O9{x:Ex}{l:M2}{i:Nat}(h:i<l.length):GS x (l.take (i+1))=λq=>GS x (l.take i) q||zV x l[i] q:=by
 funext q
 rw[GS,List.take_succ_eq_append_getElem h,List.any_append,GS];simp
def Mn(g:Nat->Bool)(l:B0)(lab:ByteArray)(j q:Nat):Bool:=if q<j then g q&&((l.getD q ⟨#[]⟩).toList==lab.toList)else g q
theorem Zb(g:Nat->Bool)(l:B0)(lab:ByteArray):Mn g l lab 0=g:=by funext q;simp[Mn]
theorem Wq(g:Nat->Bool)(l:B0)(lab:ByteArray)(j:Nat):Mn g l lab j j=g j:=by simp[Mn]
theorem PH(g:Nat->Bool)(l:B0)(lab:ByteArray)(j:Nat):(λq=>if q=j then(g j&&((l.getD j ⟨#[]⟩).toList==lab.toList))else Mn g l lab j q)=Mn g l lab (j+1):=by
 funext q
 rw[Mn,Mn]
 by_cases h:q=j
 ·subst h;simp
 ·rw[if_neg h]
  by_cases u:q<j
  ·rw[if_pos u,if_pos zd]
  ·rw[if_neg u,if_neg zd]
noncomputable def UP(x:Ex)(l:M2)(lab:ByteArray)(q:Nat):Bool:=GS x l q&&(((aH x).getD q ⟨#[]⟩).toList==lab.toList)
def rW(c:Nat):AC:=List.replicate c none
theorem ec(c:Nat):(rW c).length=c:=by simp[rW]
theorem A8(c:Nat)(tl:AC):rW (c+1)++tl=rW c++(none::tl):=by
 rw[rW,List.replicate_succ',agI];rfl
theorem lY{n:Nat}{a b:AC}:∀(c:Nat),zQ n a b->zQ n (rW c++a) (rW c++b)
 |0,h=>h
 |c+1,h=>⟨.inl rfl,lY c h⟩
theorem ai.either{c N:Nat}{a b:Nat->Bool}{K:AV->AC->Prop}(hn:N<=1000)(k:K (.vec (c+1) N) (rW c++[some ⟨4,1,true,dK N a⟩,some ⟨4,1,true,dK N (λq=>a q||b q)⟩])) :
  ai prog 176 [.vec c N,.aB 1 (dK N b) N] (rW c++[some ⟨4,1,true,dK N a⟩]) K:=by
 have hl:(rW c++[some (⟨4,1,true,dK N a⟩:aa)]).length=c+1:=by rw[aew,ec];rfl
 refine ai.fr [c] (yb N a b hn) zk ?_ ?_ (by simp only[aU,AV.wf,bp,agA];rfl) ?_ ?_
 ·simp only[aga,agE,xH (ec c),aeO,aa.ba,mi];rfl
 ·simp only[bV,AV.ba,mi];rfl
 ·intro k ob u
  match k,u with
  |0,u=>cases u;exact bp _ _ _
  |k+1,u=>simp at u
 ·rw[hl]
  have A:(AV.vec 1 N).ba (sig [c] (c+1))=.vec (c+1) N:=by simp[AV.ba,sig]
  rw[A];simp only[fj,aeO,ahi,aa.ba,mi,aga,agE,xI (ec c),afS,agI,afK,afJ];exact k
theorem dQ.either{c N:Nat}{a b:Nat->Bool}{K:AV->AC->Prop}(hn:N<=1000)(k:K (.vec (c+1) N) (rW c++[some ⟨4,1,true,dK N a⟩,some ⟨4,1,true,dK N (λq=>a q||b q)⟩])) :
  dQ prog 176 [.vec c N,.aB 1 (dK N b) N] (rW c++[some ⟨4,1,true,dK N a⟩]) K:=by
 have hl:(rW c++[some (⟨4,1,true,dK N a⟩:aa)]).length=c+1:=by rw[aew,ec];rfl
 refine dQ.fr [c] (yb N a b hn) zk ?_ ?_ (by simp only[aU,AV.wf,bp,agA];rfl) ?_ ?_
 ·simp only[aga,agE,xH (ec c),aeO,aa.ba,mi];rfl
 ·simp only[bV,AV.ba,mi];rfl
 ·intro k ob u
  match k,u with
  |0,u=>cases u;exact bp _ _ _
  |k+1,u=>simp at u
 ·rw[hl]
  have A:(AV.vec 1 N).ba (sig [c] (c+1))=.vec (c+1) N:=by simp[AV.ba,sig]
  rw[A];simp only[fj,aeO,ahi,aa.ba,mi,aga,agE,xI (ec c),afS,agI,afK,afJ];exact k
theorem UA(x:Ex)(l:M2)(lab:ByteArray)(hn:(aH x).length<=1000)(hl:l.length<=1000000):aj prog 140 [.vp (zg x),.aB 1 (l.map encI) l.length,.v (.string lab)]
  (.aB 1 (aT (kZ (aH x).length (UP x l lab))) (kZ (aH x).length (UP x l lab)).length):=by
 have W:=lg 0 x;have Y:bD 0 (aT (kZ (aH x).length (UP x l lab)))=true:=bw _ (λ_=>rfl) _;have hi:bD 0 (l.map encI)=true:=bw _ (λ_=>rfl) _;have S:=UL (aH x).length (UP x l lab) hn;simp only[zg]at W⊢
 (refine aj.enter func140 rfl zo zo rfl (by simp only[go_sem,aU,AV.wf,agA,afo,afu,W,Y,hi]) (by simp only[go_sem,aU,AV.wf,bz,agA,afo,afu,W,Y,hi]) ?_;simp only[ntmps140,results140,afa,aeq,Nat.reduceAdd,Nat.reduceSub,List.replicate_succ,List.replicate_zero,afK,afJ])
 have e0:List.replicate (aH x).length [AV.v (.bool false)]=dK (aH x).length (GS x (l.take 0)):=lu _
 repeat(first|(with_reducible first|refine bG.up ?_|refineλ(K:AK)hK=>?_|refine wD ?_|refine au zs ?_|refine ay zs ?_|(refine hK _ ?_;clear hK K))|simp only[go_sem,e0]|with_reducible refine wA ?_|clear hK K)
 refine aO (ι:=Nat×Nat) 9 (λs=>[(7,.vec s.2 (aH x).length),(8,.v (.int .i64 s.1))]) (λs=>rW s.2++[some ⟨4,1,true,dK (aH x).length (GS x (l.take s.1))⟩]) (λs=>l.length-s.1) (λs=>s.1<=l.length) (0,0) zk ?_ ?_
 ·refine ab (bJ ?_) (bJ ?_) ar
  ·exact⟨rfl,rfl⟩
  ·exact⟨.inr ⟨rfl,λob e=>by cases e;exact bp _ _ _⟩,trivial⟩
 ·rintro⟨i,c⟩ hi K hK;simp only at hi⊢;have g0:=λtl=>xH (ec c) tl;have s0:=λtl x=>xI (ec c) tl x
  (revert K;revert K;refine bj ?_;intro K hK K hK K hK)
  refine cn.part (λh=>?_) (λh=>?_)
  ·have u:i<l.length:=by replace h:=cq h;omega
   have eG:=getD_map encI l i [] u;have eW:=ag (k:=i) zd;have eF:=O9 (x:=x) u;simp only[encI]at eG;generalize hp:l[i]=p at eG eF
   by_cases O:p=0
   ·have A:zV x p=mA x 0:=by funext q;rw[zV,if_pos O]
    simp only[A]at eF;subst O
    ((iterate 3 revert K);refine aM eG ?_;iterate 4 intro K hK)
    refine ai.either hn ?_
    ((iterate 4 revert K);refine aM eW ?_)
    refine aw.mk (i+1,c+1) (by simp only;omega) (by simp only;omega) (ab ?_ ?_ (aex _))
    ·simp only[go_sem,iV,true_or,or_true,true_and,and_true,aew,ec,afa,aeq];exact .inr (b0)
    ·simp only[eF];rw[A8];exact lY c ⟨.inl rfl,.inr ⟨rfl,λob e=>by cases e;exact bp _ _ _⟩,trivial⟩
   ·have V:(p==0)=false:=beq_false_of_ne O
    by_cases h1:0<p∧p<=(aH x).length
    ·obtain⟨j,rfl⟩:∃j:Nat,p=(j:Int)+1:=⟨(p-1).toNat,zd⟩;have H:decide ((0:Int)<(j:Int)+1)=true:=b0;have U:decide ((j:Int)+1<=((aH x).length:Int))=true:=b0
     have eV:IntKind.i64.wrap ((j:Int)+1-1)=(j:Int):=by rw[bT zd zd];omega
     have eM:=u6 (N:=(aH x).length) (f:=mz x 0) (i:=j) zd
     have A:zV x ((j:Int)+1)=mz x 0 j:=by funext q;rw[zV,if_neg O,if_pos h1,show((j:Int)+1).toNat-1=j by omega]
     simp only[A]at eF
     ((iterate 3 revert K);refine Y3 7 (oT eG V H U eV eM) ?_;iterate 4 intro K hK)
     first|refine wE ?_|refine wD ?_
     ((iterate 4 revert K);refine dj (oT eG V H U eV eM) ?_;intro K hK K hK K hK)
     refine bE [12] [] za zo ?_
     ((iterate 3 revert K);refine dj (oT eG V H U eV eM) ?_;iterate 4 intro K hK)
     refine dQ.either hn ?_
     ((iterate 4 revert K);refine aM eW ?_)
     refine aw.mk (i+1,c+1) (by simp only;omega) (by simp only;omega) (ab ?_ ?_ (aex _))
     ·simp only[go_sem,iV,true_or,or_true,true_and,and_true,aew,ec,afa,aeq];exact .inr (b0)
     ·simp only[eF];rw[A8];exact lY c ⟨.inl rfl,.inr ⟨rfl,λob e=>by cases e;exact bp _ _ _⟩,trivial⟩
    ·have A:zV x p=λ_=>false:=by funext q;rw[zV,if_neg O,if_neg h1]
     simp only[A,Bool.or_false]at eF
     rcases Int.lt_or_le 0 p with b|b
     ·have H:decide (0<p)=true:=decide_eq_true b;have U:decide (p<=((aH x).length:Int))=false:=bi
      ((iterate 3 revert K);refine cw (qq eG V H U eW) ?_)
      refine aw.mk (i+1,c) (by simp only;omega) (by simp only;omega) (ab ?_ ?_ (aex _))
      ·simp only[go_sem,iV,true_or,or_true,true_and,and_true,aew,ec,afa,aeq];exact .inr (b0)
      ·simp only[eF];exact lY c ⟨.inr ⟨rfl,λob e=>by cases e;exact bp _ _ _⟩,trivial⟩
     ·have H:decide (0<p)=false:=bi
      ((iterate 3 revert K);refine cw (pG eG V H eW) ?_)
      refine aw.mk (i+1,c) (by simp only;omega) (by simp only;omega) (ab ?_ ?_ (aex _))
      ·simp only[go_sem,iV,true_or,or_true,true_and,and_true,aew,ec,afa,aeq];exact .inr (b0)
      ·simp only[eF];exact lY c ⟨.inr ⟨rfl,λob e=>by cases e;exact bp _ _ _⟩,trivial⟩
  ·have A:l.take i=l:=List.take_of_length_le (by replace h:=cq h;omega);simp only[A]
   ((iterate 3 revert K);refine bj ?_;intro K hK)
   have ek0:=Zb (GS x l) (aH x) lab
   refine aO (ι:=Nat) 10 (λj=>[(9,.v (.int .i64 j))]) (λj=>rW c++[some ⟨4,1,true,dK (aH x).length (Mn (GS x l) (aH x) lab j)⟩]) (λj=>(aH x).length-j) (λj=>j<=(aH x).length) 0 zd ?_ ?_
   ·simp only[ek0]
    refine ab ?_ ?_ (aex _)
    ·simp only[go_sem,iV,true_or,or_true,true_and,and_true,aew,ec,afa,aeq];exact⟨.inr (b0),.inr rfl⟩
    ·exact lY c ⟨.inr ⟨rfl,λob e=>by cases e;exact bp _ _ _⟩,trivial⟩
   ·intro j hj K hK
    repeat(first|(with_reducible first|refine bG.up ?_|refineλ(K:AK)hK=>?_|refine wD ?_|refine au zs ?_|refine ay zs ?_|(refine hK _ ?_;clear hK K))|simp only[go_sem,g0,s0]|with_reducible refine wA ?_|clear hK K)
    refine cn.part (λh=>?_) (λh=>?_)
    ·have u:j<(aH x).length:=by replace h:=cq h;omega
     have eW:=ag (k:=j) zd;have eR:=dS (g:=Mn (GS x l) (aH x) lab j) u;rw[Wq]at eR;have eS:=λv=>tU (N:=(aH x).length) (j:=j) (g:=Mn (GS x l) (aH x) lab j) (v:=v);have eU:=PH (GS x l) (aH x) lab j;have eL:=Tn u;cases hg:GS x l j
     all_goals
      simp only[hg,Bool.false_and,afu]at eU eR
      repeat(first|(with_reducible first|refine bG.up ?_|refineλ(K:AK)hK=>?_|refine wD ?_|refine au zs ?_|refine ay zs ?_|(refine hK _ ?_;clear hK K))|simp only[go_sem,eW,eR,eS,eU,eL,g0,s0,Go.undef]|with_reducible refine wA ?_|clear hK K)
      refine aw.mk (j+1) zd zd (ab ?_ ?_ (aex _))
      ·simp only[go_sem,iV,true_or,or_true,true_and,and_true,aew,ec,afa,aeq];exact .inr (b0)
      ·exact lY c ⟨.inr ⟨rfl,λob e=>by cases e;exact bp _ _ _⟩,trivial⟩
    ·have e2:j=(aH x).length:=by replace h:=cq h;omega
     have eE:dK (aH x).length (Mn (GS x l) (aH x) lab (aH x).length)=dK (aH x).length (UP x l lab):=oG λq hq=>by rw[Mn,if_pos hq,UP]
     simp only[e2];simp only[eE]
     ((iterate 3 revert K);refine dG 13 ?_;intro K hK)
     refine bl (gy 7 c rfl (g0 _) rfl (kY _ _)) zo ?_
     (revert K;refine bj ?_;intro K hK K hK)
     (revert K;revert K;refine lD S ?_)
     exact iG.aB Y
def e0:ByteArray:=⟨#[]⟩
def ad4(nm:ByteArray)(l r o:zJ):C5:=[.aB 8 [[.v (.string ⟨#[97]⟩),.v (.string ⟨#[98]⟩),.v (.bool false),.v (.string ⟨#[120]⟩),.v (.string nm),.v (.int .i64 0),.v (.string e0),.v (.slice none 0 0)]] 1,.aB 13 [Tj ⟨3,l,r⟩] 1,.aB 6 [OZ o] 1,.v (.int .i64 5),.v (.int .i64 1)]
def sA:ByteArray:=⟨#[97]⟩
def sB:ByteArray:=⟨#[98]⟩
def exE:Ex:= .mk 4 e0 [.mk 2 e0 [.mk 1 sA [],.mk 1 sB []]]
def Vp(i:Nat):C5:=[zY i]
@[go_sem] theorem abP(n k:Nat):bD n (kF Vp k)=true:=ej n _ (λ_=>rfl) k
@[go_sem] theorem Yg(n:Nat):bD n (marksOf Vp)=true:=ej n _ (λ_=>rfl) 12
def mtx(i:Nat):ByteArray:=⟨#[35,1,0,0,47,UInt8.ofNat i,0,0]⟩
def Vs(i:Nat):C5:=[.v (.string (mtx i))]
@[go_sem] theorem abT(n k:Nat):bD n (kF Vs k)=true:=ej n _ (λ_=>rfl) k
@[go_sem] theorem Yj(n:Nat):bD n (marksOf Vs)=true:=ej n _ (λ_=>rfl) 12
mutual
theorem Q2:∀(x:Ex)(d:Nat),sX x d<=300->(aq x).length<=sX x d
 | .mk k s l,d,h=>by
  rw[sX]at h⊢
  split at h
  ·omega
  ·rename_i hd;rw[if_neg hd]
   have:=Gb l (d+1) 1 h
   rw[aq,afa];omega
theorem Gb:∀(l:IO)(d n:Nat),sL l d n<=300->n+(bZ l).length<=sL l d n
 | [],d,n,h=>by rw[sL,bZ];simp
 |x::xs,d,n,h=>by
  rw[sL]at h⊢
  split at h
  ·rename_i hn;rw[if_pos hn];have q:=Gb xs d (n+sX x d) h;have u:=Q2 x d zd;rw[bZ,aew];omega
  ·omega
end
theorem step_eq{x:Ex}(hr:aD x=true)(l:M2)(lab:ByteArray):az (kq (aZ x) (iO (aZ x) l) lab)=kZ (aH x).length (UP x l lab):=by
 have L:=ki hr;have ok:=L.ok;have hl:=L.labs;refine tQ (lC _) (Bw _ _) λq=>?_;rw[bq,ng ok,zp]
 have key:∀(p:Nat),((aZ x).fs.getD p 0#32).getLsbD q=true↔(if p=0 then mq x 0 q else kL x 0 p q):=λp=>by
  by_cases u:p=0
  ·subst u;rw[if_pos rfl];exact L.fst q
  ·rw[if_neg u];exact L.vR p q u
 have bP:∀(p:Nat),(iO (aZ x) l).getLsbD p=true↔(p:Int)∈l∧p<=(aH x).length:=λp=>by
  rw[iO,mK ok,hl];simp
 constructor
 ·rintro⟨p,h1,Y,V⟩;have W:=ok.vR p q Y;rw[hl]at W;obtain⟨A,hpn⟩:=(bP p).1 h1;refine⟨W.1,W.2,?_⟩;rw[UP,Bool.and_eq_true]
  constructor
  ·rw[GS,List.any_eq_true];refine⟨p,A,?_⟩;have k:=(key p).1 Y;rw[zV]
   by_cases u:p=0
   ·subst u;rw[if_pos rfl]at k;rw[if_pos (show((0:Nat):Int)=0 from rfl),j7,show q-1+1=q by omega];exact k
   ·rw[if_neg u]at k;rw[if_neg zd,if_pos ⟨zd,zd⟩,mJ,show q-1+1=q by omega,show(p:Int).toNat-1+1=p by omega];exact k
  ·rw[gD,if_pos ⟨zd,by rw[hl];omega⟩,hl,show((q:Int)-1).toNat=q-1 by omega]at V;rw[beq_iff_eq];exact V
 ·rintro⟨h1,Y,V⟩;rw[UP,Bool.and_eq_true,GS,List.any_eq_true]at V;obtain⟨⟨p,A,u⟩,h4⟩:=V
  have H:(gD (aZ x) q).toList=lab.toList:=by
   rw[gD,if_pos ⟨zd,by rw[hl];omega⟩,hl,show((q:Int)-1).toNat=q-1 by omega];rw[beq_iff_eq]at h4;exact h4
  rw[zV]at u
  by_cases U:p=0
  ·subst U;rw[if_pos rfl,j7,show q-1+1=q by omega]at u;exact⟨0,(bP 0).2 ⟨A,zd⟩,(key 0).2 (by rw[if_pos rfl];exact u),H⟩
  ·rw[if_neg U]at u
   by_cases O:0<p∧p<=(aH x).length
   ·rw[if_pos O,mJ,show q-1+1=q by omega]at u;obtain⟨j,rfl⟩:∃j:Nat,p=(j:Int):=⟨p.toNat,zd⟩;rw[show(j:Int).toNat-1+1=j by omega]at u;exact⟨j,(bP j).2 ⟨A,zd⟩,(key j).2 (by rw[if_neg zd];exact u),H⟩
   ·rw[if_neg O]at u;cases u
theorem Ru{x:Ex}(O:aD x=true):az (aZ x).la=kZ (aH x).length (gK x 0):=by
 have L:=ki O;refine tQ (lC _) (Bw _ _) λq=>?_;rw[bq,zp]
 constructor
 ·intro A;have u:=L.ok.la _ A;rw[L.labs]at u;refine⟨u.1,u.2,?_⟩;rw[kg,show q-1+1=q by omega];exact(L.A6 _).1 A
 ·rintro⟨A,U,H⟩;rw[kg,show q-1+1=q by omega]at H;exact(L.A6 _).2 H
theorem UU{x:Ex}(q:aD x=true):(aZ x).em=cH x:=by
 rw[(ki q).em,cH,q,afu]
section
variable {P:Program}
theorem Hp{n0:Nat}{Q:bd->AS->Prop}{ι:Type}{c:Code}{t:C5}{o:AC}{y:kz}(d1:Nat)(U:TypeId)(q:Nat)(O:t[d1]?=some (.v (.slice none 0 0)))(A:0<q)(d2:Nat)(V:TypeId)(z2:Nat)(H:(t.set d1 (.vec o.length 0))[d2]?=some (.v (.slice none 0 0)))(u:0<z2)
  (m:Nat)(upd:ι->O1)(ob:ι->AC)(mu:ι->Nat)(ok:ι->Prop)(i0:ι)(W:ok i0)
  (Y:Wk n0 ⟨(t.set d1 (.vec o.length 0)).set d2 (.vec (o++[some (aa.mk U q true [])]).length 0),(o++[some (aa.mk U q true [])])++[some (aa.mk V z2 true [])],y⟩ ⟨lV (cO m t) (upd i0),ob i0,y⟩)
  (h:∀i,ok i->∀K:AS->Prop,(∀s2,aw n0 (λi=>⟨lV (cO m t) (upd i),ob i,y⟩) mu ok (mu i) s2->K s2)->cD P n0 c ⟨lV (cO m t) (upd i),ob i,y⟩ (pj K Q)):cD P n0 (.loop c) ⟨t,o,y⟩ Q:=
 mG (λi=>AS.mk (lV (cO m t) (upd i)) (ob i) y) mu ok i0 _ (Gs.step d2 V z2 _ (Gs.step d1 U q (AS.mk t o y) .refl O A) H u) Y W h
end
def dF(l:N2):List C5:=l.map (λb=>[.v (.bool b)])
@[go_sem] theorem jI(l:N2):(dF l).length=l.length:=by simp[dF]
@[go_sem] theorem qb(n:Nat)(l:N2):bD n (dF l)=true:=bw _ (λ_=>rfl) _
attribute [go_sem] gS
def pZ(labs:B0):Option qf->AV
 |some st=> .ck [.aB 1 (fq (st.rows.map (iW labs))) st.rows.length,.aB 1 (dF st.ends) st.ends.length,.v (.bool true)]
 |none=> .ck [.v (.slice none 0 0),.v (.slice none 0 0),.v (.bool false)]
theorem Nw(labs:B0)(o:Option qf):(pZ labs o).wf 0=true:=by
 cases o with
 |none=>rfl
 |some st=>simp only[pZ,AV.wf,aU,oL,qb,Bool.and_self]
def R5(x:Ex)(labs:B0)(st:qf):AC:=[some ⟨25,3,false,[[.v (.int .i64 x.kind),.v (.string x.label),.aB 3 (x.kids.map aN) x.kids.length]]⟩,none,some ⟨56,1,true,st.all.map sy⟩,some ⟨56,1,true,fq (st.rows.map (iW labs))⟩,some ⟨4,1,true,dF st.ends⟩]
theorem sT(l:Do):aT l=(b4 l).map encI:=by rw[aT,b4,agM];rfl
theorem Sv(l:List Do):l.map sy=fq (l.map b4):=by
 rw[fq,agM];refine List.map_congr_left λa _=>?_;rw[sy,Function.comp,sT,b4,agG]
theorem AP{a b:Do}:b4 a=b4 b↔a=b:=by
 constructor
 ·intro h
  have:=congrArg (List.map Int.toNat) h
  simpa [b4,agM,Function.comp_def]using this
 ·rintro rfl;rfl
theorem LY(l:List Do)(s:Do):(l.map b4).findIdx? (λy=>decide (b4 s=y))=l.findIdx? (λy=>s==y):=by
 induction l with
 |nil=>rfl
 |cons a l ih=>
  rw[List.map_cons,List.findIdx?_cons,List.findIdx?_cons,ih]
  by_cases e:s=a
  ·rw[beq_iff_eq.2 e,decide_eq_true (AP.2 e)]
  ·rw[beq_eq_false_iff_ne.2 e,decide_eq_false (λq=>e (AP.1 q))]
def p9N(L:List Do)(s:Do):Int:=match L.findIdx? (λy=>s==y)with
 |some k=>(k:Int)
 |none=> -1
theorem YH(L:List Do)(s:Do):V7 (L.map b4) (b4 s)=p9N L s:=by
 rw[V7,LY,p9N];cases L.findIdx? (λy=>s==y)<;>rfl
theorem V6(L:List Do)(s:Do)(A:L.length<=1000000)(hl:∀l∈L,l.length<=1000000)(q:s.length<=1000000):aj prog 141 [.aB 1 (L.map sy) L.length,.aB 1 (aT s) s.length] (.v (.int .i64 (p9N L s))):=by
 have:=Oh (L.map b4) (b4 s) (by simpa using A) (λl h=>by
  obtain⟨a,u,rfl⟩:=List.mem_map.1 h
  simpa [b4]using hl a u) (by simpa [b4]using q)
 rw[<-Sv, <- sT,YH,agG,show(b4 s).length=s.length by simp[b4]]at this;exact this
theorem Rj{x:Ex}(q:aD x=true)(cur:Do)(lab:ByteArray)(hn:(aH x).length<=1000)(hl:cur.length<=1000000):aj prog 140 [.vp (zg x),.aB 1 (aT cur) cur.length,.v (.string lab)] (.aB 1 (aT (bf (aZ x) cur lab)) (bf (aZ x) cur lab).length):=by
 have:=UA x (b4 cur) lab hn (by simpa [b4]using hl)
 rw[<-step_eq q, <- sT]at this;simpa [b4,bf]using this
def mY(A:M2)(n:Nat):List C5:=(A++List.replicate (n-A.length) (0:Int)).map encI
theorem kX{A:M2}{n:Nat}(h:A.length<=n):(mY A n).length=n:=by rw[mY,agG,aew,List.length_replicate];omega
theorem tT(n:Nat):List.replicate n [AV.v (.int .i64 0)]=mY [] n:=by simp[mY,encI]
theorem xm{A:M2}{n:Nat}(h:A.length=n):mY A n=A.map encI:=by rw[mY,h,afc];simp
@[go_sem] theorem ado(z:Nat)(A:M2)(n:Nat):bD z (mY A n)=true:=bw _ (λ_=>rfl) _
theorem pW{A:M2}{n k:Nat}(q:A.length=k)(h:k<n):(mY A n).getD k []=[.v (.int .i64 0)]:=by
 subst q;rw[mY,show n-A.length=(n-(A.length+1))+1 by omega,afU,ae2,agY,aeK (by rw[agG];exact Nat.le_refl _),agG,afc]
 rfl
theorem tS{A:M2}{n k:Nat}(v:Int)(q:A.length=k)(h:k<n):(mY A n).set k [.v (.int .i64 v)]=mY (A++[v]) n:=by
 subst q;rw[mY,mY,show n-A.length=(n-(A++[v]).length)+1 by rw[aew,agK];omega,afU];simp[List.set_append,encI]
theorem DB{A:M2}{n k:Nat}(u:Int)(q:A.length=k):(mY (A++[u]) n).getD k []=[.v (.int .i64 u)]:=by
 subst q;rw[mY,ae2,List.append_assoc,agY,aeK (by rw[agG];exact Nat.le_refl _),agG,afc]
 rfl
theorem zj{A:M2}{n k:Nat}(u v:Int)(q:A.length=k):(mY (A++[u]) n).set k [.v (.int .i64 v)]=mY (A++[v]) n:=by
 subst q;rw[mY,mY,show(A++[u]).length=(A++[v]).length by simp];simp[List.set_append,encI]
theorem TX{x:Ex}(A:aD x=true){a:Do}(h:Made (bf (aZ x)) a):∀p∈a,p<=(aH x).length:=λp u=>by
 have L:=ki A
 rcases h.2 with rfl|⟨cur,l,rfl⟩
 ·simp only[List.mem_singleton]at u;omega
 ·obtain⟨q,_,_,k,_⟩:=(ly L.ok).1 u
  have:=(L.ok.vR _ _ k).2
  rw[L.labs]at this;exact this
def GQ(g:Nat->Bool)(p:Nat):Bool:=decide (0<p)&&g (p-1)
theorem OX{N:Nat}{g:Nat->Bool}{p:Nat}(h:p<=N):(kZ N g).contains p=GQ g p:=by
 rw[agj,List.contains_iff_mem,zp,GQ,Bool.and_eq_true,decide_eq_true_eq];exact⟨λq=>⟨zd,q.2.2⟩,λq=>⟨zd,h,q.2⟩⟩
theorem any_eq{N:Nat}{g:Nat->Bool}{l:Do}(h:∀p∈l,p<=N):l.any (λp=>(kZ N g).contains p)=l.any (GQ g):=by
 rw[agj,List.any_eq_true,List.any_eq_true];exact⟨λ⟨p,u,q⟩=>⟨p,u,by rw[<-OX (h p u)];exact q⟩,λ⟨p,u,q⟩=>⟨p,u,by rw[OX (h p u)];exact q⟩⟩
theorem Q7{x:Ex}(hr:aD x=true)(h1:(aq x).length<=1000000)(hz:∀z,z∈aq x->z.kids.length<=1000000∧z.label.size<=1000000000000000)(labs:B0)(hn:labs.Nodup)(hl:labs.length<=1000)(hN:(aH x).length<=1000):aj prog 103 [.agg (aN x),bY labs] (pZ labs (p8 x labs)):=by
 have CN:=Ua x h1 hz;rw[hr,if_pos rfl]at CN;have wR:=lg 0 x;have CS:=λcur lab hc=>Rj hr cur lab hN hc;have eS:p8 x labs=q8 (bf (aZ x)) (aZ x).em (az (aZ x).la) labs:=rfl;rw[eS];have hEm:=UU hr;generalize(aZ x).em=em at *
 have hA:aU 0 [AV.agg (aN x),bY labs]=true:=by simp only[bY,aU,AV.wf,fp,bz,Bool.and_self]
 have hF:=Nw labs (q8 (bf (aZ x)) em (az (aZ x).la) labs);generalize hrv:pZ labs (q8 (bf (aZ x)) em (az (aZ x).la) labs)=rv at hF⊢;simp only[aA,bY]at *
 (refine aj.iA func103 rfl zo zo rfl hA hF ?_;simp only[ntmps103,results103,List.length_cons,List.length_nil,Nat.reduceAdd,Nat.reduceSub,afU,List.replicate_zero,afK,afJ])
 (refine bj ?_;intro K hK K hK)
 refine ai.one CN ?_
 (revert K;revert K;refine dG 3 ?_;intro K hK)
 refine bl (fM (k:=2) (i:=0) (j:=0) zs rfl (Nat.zero_lt_succ _) rfl rfl rfl rfl rfl) zo ?_;simp only[List.set_cons_zero,List.set_cons_succ]
 (revert K;refine bj ?_;intro K hK)
 refine Hp (ι:=qf) 10 56 1 rfl zs 11 4 1 rfl zs 18 (λst=>[(9,.vec 2 st.all.length),(10,.vec 3 st.rows.length),(11,.vec 4 st.rows.length),(12,.v (.int .i64 st.rows.length))]) (R5 x labs) (λst=>257-st.rows.length) (λst=>Hb labs st∧(∀a∈st.all,Made (bf (aZ x)) a)∧pZ labs (pX (bf (aZ x)) em (az (aZ x).la) labs (257-st.rows.length) st)=rv) s0
  ⟨UH labs,λa ha=>by simp only[s0,List.mem_singleton]at ha;subst ha;exact⟨zk,.inl rfl⟩,hrv⟩ ?_ ?_
 ·simp only[R5,s0]
  refine ab (bJ ?_) (bJ ?_) ar
  ·exact⟨lg _ _,rfl⟩
  ·exact⟨⟨rfl,qJ _ _⟩,rfl,rfl⟩
 ·rintro st ⟨U,hmade,q⟩ K hK;have h257:=U.max;have hel:=U.ends;simp only[R5]
  (revert K;revert K;refine bj ?_;intro K hK K hK K hK)
  refine cn.part (λh=>?_) (λh=>?_)
  ·have W:st.rows.length<st.all.length:=by replace h:=cq h;omega
   rw[show 257-st.rows.length=(256-st.rows.length)+1 by have:=U.le;omega,pX,if_pos W]at q;obtain⟨hcm,hcl⟩:=rU (hmade _ (bK (d:=[]) W));rw[<-cd]at hcm hcl;have h0:[]∉st.all:=λhm=>(hmade _ hm).1 rfl;have eZ:=tT labs.length
   ((iterate 3 revert K);refine aM (rL h eZ) ?_;iterate 4 intro K hK)
   refine aO (ι:=Nat) 18 (λk=>[(9,.vec 2 (ze (bf (aZ x)) (cd st) st.all (labs.take k)).1.length),(14,.v (.int .i64 k)),(15,.undef)]) (λk=>R5 x labs {st with all:=(ze (bf (aZ x)) (cd st) st.all (labs.take k)).1}++[some ⟨3,1,true,mY (ze (bf (aZ x)) (cd st) st.all (labs.take k)).2 labs.length⟩]) (λk=>labs.length-k) (λk=>k<=labs.length) 0 (Nat.zero_le _) ?_ ?_
   ·simp only[R5,List.take_zero,ze,List.foldl_nil,afK,afJ];refine ab (bJ ?_) ar ar;exact⟨lg _ _,rfl⟩
   ·intro k hk K hK;obtain⟨k1,k2,k3,k4,k5,t,k6⟩:=xn (bf (aZ x)) (cur:=cd st) U.nd (labs.take k);have hmd:=vn (bf (aZ x)) hmade (cur:=cd st) (labs.take k);obtain⟨eR,hne⟩:=KI (bf (aZ x)) (cd st) h0 (labs.take k) (hn.sublist (List.take_sublist _ _))
    have V:(ze (bf (aZ x)) (cd st) st.all (labs.take k)).2.length=k:=by rw[eR];simp only[fD,List.length_take];omega
    rw[show(fL (bf (aZ x)) (cd st) st.all (labs.take k)).1=(ze (bf (aZ x)) (cd st) st.all (labs.take k)).1 by rw[eR]]at k3 k4 k6 hmd hne
    rcases hRi:ze (bf (aZ x)) (cd st) st.all (labs.take k)with⟨al,ro⟩
    rw[hRi]at k3 k4 k6 hmd hne V;simp only at k3 k4 k6 hmd hne V
    have hal:al.length<=2000:=by rw[List.length_take]at k4;omega
    simp only[R5,afK,afJ]
    ((iterate 5 revert K);refine bj ?_;iterate 6 intro K hK)
    refine cn.part (λh2=>?_) (λh2=>?_)
    ·have hli:k<labs.length:=by replace h2:=cq h2;omega
     have eW:=ag (k:=k) zd;have eG:=getD_map encS labs k [] hli
     have eC:(al.map sy).getD st.rows.length []=[.aB 1 (aT (cd st)) (cd st).length]:=by
      have hx:al.getD st.rows.length []=cd st:=by rw[k6,dY W];rfl
      rw[ae2,aeE,aeC zd];rw[ae2,aeC zd]at hx;simp only[Option.map_some,Option.getD_some]at hx⊢;rw[hx];rfl
     have A:=Bp (bf (aZ x)) (cd st) st.all (labs.take k) labs[k];rw[<-agO hli,hRi,rIn]at A;simp only at A;have CSk:=CS (cd st) labs[k] zd;obtain⟨ts,tl⟩:=nH (kq (aZ x) (iO (aZ x) (b4 (cd st))) labs[k]);have tl':(bf (aZ x) (cd st) labs[k]).length<=1000:=tl;have AT:=V6 al (bf (aZ x) (cd st) labs[k]) zd (λl hl=>by have:=(rU (hmd l hl)).2;omega) zd;rw[p9N]at AT;generalize O:bf (aZ x) (cd st) labs[k]=to at *;have eLr:(mY ro labs.length).length=labs.length:=kX zd;simp only[encS]at eG;have wfA:∀n,bD n (al.map sy)=true:=λn=>bw _ (qJ n) _;have gZ:=pW (n:=labs.length) V hli;have sQ:=λv=>tS (n:=labs.length) v V hli;have gQ:=λu=>DB (n:=labs.length) u V;have sR:=λu v=>zj (n:=labs.length) u v V;have eL2:∀v:Int,(mY (ro++[v]) labs.length).length=labs.length:=λv=>kX (by rw[aew,agK];omega)
     repeat(first|(with_reducible first|refine bG.up ?_|refineλ(K:AK)hK=>?_|refine wD ?_|refine au zs ?_|(refine hK _ ?_;clear hK K))|simp only[go_sem,eG,eC,h2]|with_reducible refine wA ?_|clear hK K)
     refine b8.one CSk ?_
     repeat(first|(with_reducible first|refine bG.up ?_|refineλ(K:AK)hK=>?_|refine wD ?_|refine au zs ?_|(refine hK _ ?_;clear hK K))|simp only[go_sem,eG,eC,h2]|with_reducible refine wA ?_|clear hK K)
     cases hp:al.findIdx? (λy=>to==y)with
     |some j=>
      rw[hp]at AT A;simp only at AT A
      have O:to≠[]:=λe=>by
       obtain⟨q1,q2,_⟩:=List.findIdx?_eq_some_iff_getElem.1 hp;rw[beq_iff_eq]at q2;exact hne (by rw[<-e,q2];exact List.getElem_mem q1)
      have d1:decide ((0:Int)<(to.length:Int))=true:=decide_eq_true (by have:=List.length_pos_iff.2 O;omega);have d2:decide ((j:Int)<0)=false:=bi;refine ai.Ct AT 8 rfl (by simp only[go_sem,Nat.reduceLT,Nat.reduceLeDiff,Nat.reduceEqDiff,Nat.lt_add_one,Nat.zero_lt_one,and_self,wfA,agG]) rfl ?_
      ((iterate 8 revert K);refine Cu (L7 eLr gZ sQ d1 d2 gQ eL2) ?_)
      refine aM eW ?_;refine aw.mk (k+1) zd zd ?_;rw[A];simp only[R5,afK,afJ];refine ab (bJ ?_) ar ar;exact lg _ _
     |none=>
      rw[hp]at AT A;simp only at AT A;refine ai.Ct AT 8 rfl (by simp only[go_sem,Nat.reduceLT,Nat.reduceLeDiff,Nat.reduceEqDiff,Nat.lt_add_one,Nat.zero_lt_one,and_self,wfA,agG]) rfl ?_
      by_cases O:to=[]
      ·have d1:decide ((0:Int)<(to.length:Int))=false:=decide_eq_false (by rw[O];simp);rw[if_pos O]at A
       ((iterate 8 revert K);refine Cu (oT eLr gZ sQ d1 gQ eL2) ?_)
       refine aM eW ?_;refine aw.mk (k+1) zd zd ?_;rw[A];simp only[R5,afK,afJ];refine ab (bJ ?_) ar ar;exact lg _ _
      ·have d1:decide ((0:Int)<(to.length:Int))=true:=decide_eq_true (by have:=List.length_pos_iff.2 O;omega);rw[if_neg O]at A
       ((iterate 8 revert K);refine Cu (oT eLr gZ sQ d1 gQ eL2) ?_)
       refine yn (nq eL2 gQ sR) ?_;refine aM eW ?_;refine aw.mk (k+1) zd zd ?_;rw[A];simp only[R5,afK,afJ,agY,List.map_cons,List.map_nil,aew,List.length_cons,List.length_nil]
       refine ab (bJ ?_) (bJ ?_) ar
       ·exact lg _ _
       ·exact⟨rfl,qJ _ _⟩
    ·have hil:k=labs.length:=by replace h2:=cq h2;omega
     rw[hil,List.take_length]at hRi;have eR2:=(KI (bf (aZ x)) (cd st) h0 labs hn).1;rw[hRi]at eR2
     rcases hSi:fL (bf (aZ x)) (cd st) st.all labs with⟨al',rs⟩
     rw[hSi]at eR2;simp only[Prod.mk.injEq]at eR2;obtain⟨eal,ero⟩:=eR2
     have H:(cR (bf (aZ x)) em (az (aZ x).la) labs st).all=al:=by rw[cR,hSi,eal]
     have hrow:(cR (bf (aZ x)) em (az (aZ x).la) labs st).rows=st.rows++[rs]:=by rw[cR,hSi]
     have hends:(cR (bf (aZ x)) em (az (aZ x).la) labs st).ends=st.ends++[tW em (az (aZ x).la) st]:=by rw[cR]
     rw[H]at q
     ((iterate 6 revert K);refine bj ?_;iterate 4 intro K hK)
     refine cn.part (λh3=>?_) (λh3=>?_)
     ·rw[if_pos (by replace h3:=cq h3;omega)]at q
      ((iterate 4 revert K);refine bj ?_)
      rw[<-q];exact bB.ck ⟨bB.v _,bB.v _,bB.v _,trivial⟩
     ·have h256: ¬ 256<al.length:=by replace h3:=cq h3;omega
      rw[if_neg h256]at q;have hle:=TX hr (hmade _ (bK (d:=[]) W));rw[<-cd]at hle
      have hE:tW em (az (aZ x).la) st=(((st.rows.length:Int)==0&&em)||(cd st).any (GQ (gK x 0))):=by
       rw[tW,Ru hr,any_eq hle];congr 2;rw[agj,beq_iff_eq,beq_iff_eq];omega
      have eC:(al.map sy).getD st.rows.length []=[.aB 1 (aT (cd st)) (cd st).length]:=by
       have hx:al.getD st.rows.length []=cd st:=by rw[k6,dY W];rfl
       rw[ae2,aeE,aeC zd];rw[ae2,aeC zd]at hx;simp only[Option.map_some,Option.getD_some]at hx⊢;rw[hx];rfl
      have eV:zg x=[.aB 1 ((aH x).map encS) (aH x).length,.aB 1 (dK (aH x).length (mA x 0)) (aH x).length,.aB 1 (dK (aH x).length (gK x 0)) (aH x).length,.aB 1 (mC (aH x).length (mz x 0)) (aH x).length,.v (.bool em),.v (.int .i64 x.kind),.v (.string x.label),.aB 3 (x.kids.map aN) x.kids.length]:=by rw[zg,hEm]
      simp only[eV];obtain⟨e0,he0⟩:∃e0,e0=((st.rows.length:Int)==0&&em):=⟨_,rfl⟩
      ((iterate 4 revert K);refine dG 19 ?_;iterate 4 intro K hK)
      refine Eu ⟨bP 132 [(0,.agg [.v (.int .i64 x.kind),.v (.string x.label),.aB 3 (x.kids.map aN) x.kids.length]),(1,.aB 1 (labs.map encS) labs.length),(2,.ptr 0 0 3 0 0),(4,.v (.slice none 0 0)),(5,.v (.slice none 0 0)),(6,.v (.bool false)),(7,.vp [.aB 1 ((aH x).map encS) (aH x).length,.aB 1 (dK (aH x).length (mA x 0)) (aH x).length,.aB 1 (dK (aH x).length (gK x 0)) (aH x).length,.aB 1 (mC (aH x).length (mz x 0)) (aH x).length,.v (.bool em),.v (.int .i64 x.kind),.v (.string x.label),.aB 3 (x.kids.map aN) x.kids.length]),(8,.v (.int .i64 0)),(9,.vec 2 al.length),(10,.vec 3 st.rows.length),(11,.vec 4 st.rows.length),(12,.v (.int .i64 st.rows.length)),(13,.vec 5 labs.length),(16,.v (.bool e0))],[some ⟨25,3,false,[[.v (.int .i64 x.kind),.v (.string x.label),.aB 3 (x.kids.map aN) x.kids.length]]⟩,none,some ⟨56,1,true,al.map sy⟩,some ⟨56,1,true,fq (st.rows.map (iW labs))⟩,some ⟨4,1,true,dF st.ends⟩,some ⟨3,1,true,mY ro labs.length⟩],.no⟩ zo ?_ ?_
      ·rcases(Bool.eq_false_or_eq_true ((st.rows.length:Int)==0)).symm with hZ|hZ
       ·rw[hZ,Bool.false_and]at he0;subst he0
        ((iterate 4 revert K);refine cw hZ ?_)
        exact ab ar ar ar
       ·rw[hZ,Bool.true_and]at he0;subst he0
        ((iterate 4 revert K);refine cw hZ ?_)
        exact ab ar ar ar
      ·simp only[bP,List.foldl_cons,List.foldl_nil,afU,List.replicate_zero,go_sem]
       ((iterate 4 revert K);refine bj ?_;iterate 4 intro K hK)
       refine bg (ι:=Nat) 18 (λj=>[(16,.v (.bool (e0||((cd st).take j).any (GQ (gK x 0))))),(17,.v (.int .i64 j))]) (λj=>(cd st).length-j) (λj=>j<=(cd st).length) 0 (Nat.zero_le _) ?_ ?_
       ·refine ab (bJ ?_) ar ar
        all_goals first|rfl|simp
       ·intro j hj K hK;have eWj:=ag (k:=j) zd
        repeat(first|(with_reducible first|refine bG.up ?_|refineλ(K:AK)hK=>?_|refine wD ?_|refine au zs ?_|(refine hK _ ?_;clear hK K))|simp only[go_sem,eC]|with_reducible refine wA ?_|clear hK K)
        refine cn.part (λh4=>?_) (λh4=>?_)
        ·have hlj:j<(cd st).length:=by replace h4:=cq h4;omega
         have eN:(aT (cd st)).getD j []=[.v (.int .i64 ((cd st)[j]:Nat))]:=by rw[aT,ae2,aeE,aeC hlj];rfl
         have eLn:(aT (cd st)).length=(cd st).length:=by rw[aT,agG]
         have eA:((cd st).take (j+1)).any (GQ (gK x 0))=(((cd st).take j).any (GQ (gK x 0))||GQ (gK x 0) (cd st)[j]):=by rw[agO hlj,List.any_append];simp
         have hpl:=hle _ (List.getElem_mem hlj);generalize hpp:(cd st)[j]=pp at *;generalize hee:(e0||((cd st).take j).any (GQ (gK x 0)))=ee at *
         have Y:(e0||((cd st).take (j+1)).any (GQ (gK x 0)))=(ee||GQ (gK x 0) pp):=by rw[eA, <- Bool.or_assoc,hee]
         cases ee
         ·by_cases hp0:0<pp
          ·have d1:decide ((0:Int)<(pp:Int))=true:=b0
           have eW1:IntKind.i64.wrap ((pp:Int)-1)=((pp-1:Nat):Int):=by rw[bT zd zd];omega
           have eB:=dS (N:=(aH x).length) (g:=gK x 0) (j:=pp-1) zd
           have eQ:GQ (gK x 0) pp=gK x 0 (pp-1):=by rw[GQ,decide_eq_true hp0,Bool.true_and]
           rw[eQ,Bool.false_or]at Y
           ((iterate 6 revert K);refine ak h4 ?_;iterate 6 intro K hK)
           refine bE [] [] za zo ?_
           repeat(first|(with_reducible first|refine bG.up ?_|refineλ(K:AK)hK=>?_|refine au zs ?_|(refine hK _ ?_;clear hK K))|simp only[go_sem,eC,eN,eLn,d1,eW1,eB,h4,Go.undef]|with_reducible refine wA ?_|clear hK K)
           refine aM eWj ?_;refine aw.mk (j+1) zd zd ?_;rw[Y];exact ab ar ar ar
          ·have d1:decide ((0:Int)<(pp:Int))=false:=bi
           have eQ:GQ (gK x 0) pp=false:=by rw[GQ,decide_eq_false hp0,Bool.false_and]
           rw[eQ,Bool.false_or]at Y
           ((iterate 6 revert K);refine ak h4 ?_;iterate 6 intro K hK)
           refine bE [] [] za zo ?_
           repeat(first|(with_reducible first|refine bG.up ?_|refineλ(K:AK)hK=>?_|refine au zs ?_|(refine hK _ ?_;clear hK K))|simp only[go_sem,eC,eN,eLn,d1,h4,Go.undef]|with_reducible refine wA ?_|clear hK K)
           refine aM eWj ?_;refine aw.mk (j+1) zd zd ?_;rw[Y];exact ab ar ar ar
         ·rw[Bool.true_or]at Y
          ((iterate 6 revert K);refine ae ?_;iterate 6 intro K hK)
          refine bE [] [] za zo ?_
          ((iterate 6 revert K);refine Pf ?_)
          refine aM eWj ?_;refine aw.mk (j+1) zd zd ?_;rw[Y];exact ab ar ar ar
        ·have hjl:j=(cd st).length:=by replace h4:=cq h4;omega
         have hEn:tW em (az (aZ x).la) st=(e0||((cd st).take j).any (GQ (gK x 0))):=by rw[hE, <- he0,hjl,List.take_length]
         rw[<-hEn]
         ((iterate 6 revert K);refine dG 24 ?_;iterate 4 intro K hK)
         refine bl (gy 13 5 rfl rfl rfl (by rw[kX zd])) zo ?_;simp only[List.set_cons_zero,List.set_cons_succ];rw[xm zd];have eWi:=ag (k:=st.rows.length) zd
         have eT:fq (st.rows.map (iW labs))++[[.aB 1 (ro.map encI) labs.length]]=fq ((cR (bf (aZ x)) em (az (aZ x).la) labs st).rows.map (iW labs)):=by
          rw[hrow,agY,fq,fq,agY,ero];simp[fD]
         have eD:dF st.ends++[[AV.v (.bool (tW em (az (aZ x).la) st))]]=dF (cR (bf (aZ x)) em (az (aZ x).la) labs st).ends:=by
          rw[hends,dF,dF,agY];rfl
         have hlen:(cR (bf (aZ x)) em (az (aZ x).la) labs st).rows.length=st.rows.length+1:=by rw[hrow,aew,agK]
         generalize tW em (az (aZ x).la) st=se at *;obtain⟨nx,hnx⟩:∃nx,nx=cR (bf (aZ x)) em (az (aZ x).la) labs st:=⟨_,rfl⟩;have hnok:Hb labs nx:=hnx ▸ tX (bf (aZ x)) em (az (aZ x).la) U W (by rw[H];exact h256);rw[<-hnx]at q hlen H eT eD
         have eEl:(dF st.ends).length=st.rows.length:=by rw[jI,hel]
         repeat(first|(with_reducible first|refine bG.up ?_|refineλ(K:AK)hK=>?_|refine wD ?_|refine au zs ?_|(refine hK _ ?_;clear hK K))|simp only[go_sem,eT,eD,eEl,agG,eWi]|with_reducible refine wA ?_|clear hK K)
         refine aw.mk nx ⟨hnok,by rw[H];exact hmd,by rw[hlen,show 257-(st.rows.length+1)=256-st.rows.length by omega];exact q⟩ (by rw[hlen];have:=U.le;omega) ?_;simp only[R5,H,hlen];refine ab (bJ ?_) ar ar;exact⟨by rw[eV],lg _ _⟩
  ·have hge:st.rows.length=st.all.length:=by have:=U.le;replace h:=cq h;omega
   rw[show 257-st.rows.length=(256-st.rows.length)+1 by omega,pX,if_neg zd]at q
   ((iterate 3 revert K);refine bj ?_)
   rw[<-q];simp only[pZ,hel];exact bB.ck ⟨bB.sg (ob:=⟨56,1,true,fq (st.rows.map (iW labs))⟩) rfl rfl (by rw[gS,agG]) (oL _ _),bB.sg (ob:=⟨4,1,true,dF st.ends⟩) rfl rfl (by rw[jI];exact hel) (qb _ _),bB.v _,trivial⟩
def r8(A:oZ):C5:=[bY A.labs,.aB 1 (fq (A.rows.map (iW A.labs))) A.rows.length,.aB 1 (dF A.ends) A.rows.length]
theorem xq(n:Nat)(A:oZ):aU n (r8 A)=true:=by simp only[r8,bY,aU,AV.wf,oL,qb,bz,agA]
theorem O2(l:N2){i:Nat}(h:i<l.length):(dF l).getD i []=[.v (.bool (l.getD i false))]:=by
 rw[dF,ae2,aeE,aeC h,ae2,aeC h];rfl
theorem QV{A:oZ}(u:A.ends.length=A.rows.length)(s:Int):aj prog 37 [.vp (r8 A),.v (.int .i64 s)] (.v (.bool (bM A s))):=by
 simp only[r8,bY]
 by_cases q:0<=s
 ·obtain⟨k,rfl⟩:∃k:Nat,s=k:=⟨s.toNat,zd⟩;have d0:decide ((0:Int)<=(k:Int))=true:=decide_eq_true q
  by_cases H:k<A.rows.length
  ·have d1:decide ((k:Int)<(A.rows.length:Int))=true:=b0;have eG:=O2 A.ends (i:=k) zd
   have eL:(dF A.ends).length=A.rows.length:=by rw[jI,u]
   have e:bM A k=A.ends.getD k false:=by rw[bM,d0,d1];rfl
   rw[e];refine gE func37 ntmps37 results37 ?_;exact E9 (pG d0 d1 eG eL)
  ·have d1:decide ((k:Int)<(A.rows.length:Int))=false:=bi
   have e:bM A k=false:=by rw[bM,d0,d1];rfl
   rw[e];refine gE func37 ntmps37 results37 ?_;exact E9 (rL d0 d1)
 ·have d0:decide ((0:Int)<=s)=false:=decide_eq_false q
  have e:bM A s=false:=by rw[bM,d0];rfl
  rw[e];refine gE func37 ntmps37 results37 ?_;exact E9 d0
theorem UF{A:oZ}(LO:LOk A)(s:Int)(l:ByteArray):aj prog 70 [.vp (r8 A),.v (.int .i64 s),.v (.string l)] (stepT (jt A s l)):=by
 have hfew:=LO.few;have hmax:=LO.max;have W:=RX (jt A s l);simp only[r8,bY]
 by_cases hv:0<=s∧s<A.rows.length
 ·obtain⟨n,rfl⟩:∃n:Nat,s=n:=⟨s.toNat,zd⟩
  have hn:n<A.rows.length:=zd
  have d0:decide ((0:Int)<=(n:Int))=true:=b0;have d1:decide ((n:Int)<(A.rows.length:Int))=true:=b0
  have eX:jt A n l=look (A.rows.getD n []) l:=by rw[jt,if_pos hv,Int.toNat_natCast]
  have eT:(fq (A.rows.map (iW A.labs))).getD n []=[.aB 1 ((iW A.labs (A.rows.getD n [])).map encI) A.labs.length]:=by
   rw[sP _ (by rw[agG];exact hn),ags,fD,ae2,aeC hn];rfl
  have eLT:(fq (A.rows.map (iW A.labs))).length=A.rows.length:=by rw[gS,agG]
  have lT:((iW A.labs (A.rows.getD n [])).map encI).length=A.labs.length:=by rw[agG,fD]
  rw[eX]at W⊢;generalize H:stepT (look (A.rows.getD n []) l)=rv at W⊢
  (refine aj.enter func70 rfl zo zo rfl (by simp only[go_sem,aU,AV.wf,agA,Bool.and_true,Bool.true_and,W]) (by simp only[go_sem,aU,AV.wf,bz,agA,Bool.and_true,Bool.true_and,W]) ?_;simp only[ntmps70,results70,afa,aeq,Nat.reduceAdd,Nat.reduceSub,afU,List.replicate_zero,List.cons_append,List.nil_append])
  (refine ae ?_;intro K hK)
  refine bg (ι:=Nat) 9 (λk=>[(8,.v (.int .i64 k))]) (λk=>A.labs.length-k) (λk=>k<=A.labs.length∧∀(j:Nat)(h:j<A.labs.length),j<k->A.labs[j]=l->look (A.rows.getD n []) l=none) 0 ⟨aex _,λj _ h=>absurd h (Nat.not_lt_zero _)⟩ ?_ ?_
  ·refine ab (bJ ?_) ar ar
   all_goals rfl
  ·rintro k ⟨hk,O⟩ K hK;have eW:=ag (k:=k) zd
   (revert K;revert K;refine ae ?_;intro K hK K hK K hK)
   refine cn.part (λh=>?_) (λh=>?_)
   ·have u:k<A.labs.length:=by replace h:=cq h;omega
    have eG:=getD_map encS A.labs k [] u
    have hkR:k<(iW A.labs (A.rows.getD n [])).length:=by rw[fD];exact u
    have eGk:=Pk (iW A.labs (A.rows.getD n [])) hkR
    have eV:(iW A.labs (A.rows.getD n []))[k]=(match look (A.rows.getD n []) A.labs[k]with|some t=>(t:Int)|none=> -1):=by
     simp only[iW,ags];cases look (A.rows.getD n []) A.labs[k]<;>rfl
    rw[eV]at eGk;simp only[encS]at eG
    have cont:(A.labs[k]=l->look (A.rows.getD n []) l=none)->∀(j:Nat)(h:j<A.labs.length),j<k+1->A.labs[j]=l->look (A.rows.getD n []) l=none:=λhh j hj hjk e=>by
     rcases Nat.lt_succ_iff_lt_or_eq.1 hjk with q|rfl
     ·exact O j hj q e
     ·exact hh e
    by_cases V:A.labs[k]=l
    ·have f1:(A.labs[k].toList==l.toList)=true:=by rw[V];simp
     cases U:look (A.rows.getD n []) A.labs[k]with
     |none=>
      rw[U]at eGk;simp only at eGk
      ((iterate 3 revert K);refine dj (gB9 d0 d1 eG h f1 eT eLT eGk lT) ?_)
      refine ak eW ?_;exact aw.mk (k+1) ⟨u,cont λe=>by rw[<-e];exact U⟩ zd (by exact ab ar ar ar)
     |some t=>
      rw[U]at eGk;simp only at eGk;have d2:decide ((0:Int)<=(t:Int))=true:=b0;rw[<-V,U]at H
      repeat(first|(with_reducible first|refine bG.up ?_|refineλ(K:AK)hK=>?_|(refine hK _ ?_;clear hK K))|simp only[go_sem,d0,d1,eG,h,f1,eT,eLT,eGk,lT,d2,Go.undef]|with_reducible refine wA ?_|clear hK K)
      rw[<-H];exact iG.of 40 rfl (by simp only[go_sem,Nat.reduceLT,Nat.reduceLeDiff,Nat.reduceEqDiff,agB,agC,and_self])
    ·have f1:(A.labs[k].toList==l.toList)=false:=by
      cases hh:(A.labs[k].toList==l.toList)
      ·rfl
      ·exact absurd (toList_inj.1 hh) V
     ((iterate 3 revert K);refine dj (qq d0 d1 eG h f1) ?_)
     refine ak eW ?_;exact aw.mk (k+1) ⟨u,cont λe=>absurd e V⟩ zd (by exact ab ar ar ar)
   ·have hkn:k=A.labs.length:=by replace h:=cq h;omega
    have Y:look (A.rows.getD n []) l=none:=by
     cases U:look (A.rows.getD n []) l with
     |none=>rfl
     |some t=>
      have hm:=(LO.row _ (bK (d:=[]) hn)).1.subset (List.mem_map_of_mem (f:=Prod.fst) (lH U));obtain⟨j,hj,e⟩:=List.getElem_of_mem hm;rw[<-U];exact O j hj zd e
    rw[Y]at H
    ((iterate 3 revert K);refine ae ?_)
    rw[<-H];exact iG.of 40 rfl (by simp only[go_sem,Nat.reduceLT,Nat.reduceLeDiff,Nat.reduceEqDiff,agB,agC,and_self])
 ·have eX:jt A s l=none:=by rw[jt,if_neg hv]
  rw[eX];simp only[stepT,Option.getD_none,Option.isSome_none]
  have d:decide ((0:Int)<=s)=false∨(decide ((0:Int)<=s)=true∧decide (s<(A.rows.length:Int))=false):=by
   by_cases q:0<=s
   ·exact .inr ⟨decide_eq_true q,bi⟩
   ·exact .inl (decide_eq_false q)
  rcases d with d0|⟨d0,d1⟩
  all_goals
   refine gE func70 ntmps70 results70 ?_
   repeat(first|(with_reducible first|refine bG.up ?_|refineλ(K:AK)hK=>?_|(refine hK _ ?_;clear hK K))|simp only[go_sem]|with_reducible refine wA ?_|clear hK K)
   refine bg (ι:=Nat) 9 (λk=>[(8,.v (.int .i64 k))]) (λk=>A.labs.length-k) (λk=>k<=A.labs.length) 0 (aex _) ?_ ?_
  ·refine ab (bJ ?_) ar ar
   all_goals rfl
  ·intro k hk K hK;have eW:=ag (k:=k) zd
   (revert K;revert K;refine ae ?_;intro K hK K hK K hK)
   refine cn.part (λh=>?_) (λh=>?_)
   ·have u:k<A.labs.length:=by replace h:=cq h;omega
    ((iterate 3 revert K);refine dj d0 ?_)
    refine ak eW ?_;exact aw.mk (k+1) u zd (by exact ab ar ar ar)
   ·((iterate 3 revert K);refine ae ?_)
    exact iG.of 40 rfl (by simp only[go_sem,Nat.reduceLT,Nat.reduceLeDiff,Nat.reduceEqDiff,agB,agC,and_self])
  ·refine ab (bJ ?_) ar ar
   all_goals rfl
  ·intro k hk K hK;have eW:=ag (k:=k) zd
   (revert K;revert K;refine ae ?_;intro K hK K hK K hK)
   refine cn.part (λh=>?_) (λh=>?_)
   ·have u:k<A.labs.length:=by replace h:=cq h;omega
    ((iterate 3 revert K);refine dj (rL d0 d1) ?_)
    refine ak eW ?_;exact aw.mk (k+1) u zd (by exact ab ar ar ar)
   ·((iterate 3 revert K);refine ae ?_)
    exact iG.of 40 rfl (by simp only[go_sem,Nat.reduceLT,Nat.reduceLeDiff,Nat.reduceEqDiff,agB,agC,and_self])
theorem QY{A:M2}{n k:Nat}(q:A.length=k)(h:k<n):mY (A++[0]) n=mY A n:=by
 subst q;rw[mY,mY,show n-A.length=(n-(A++[(0:Int)]).length)+1 by rw[aew,agK];omega,afU];simp
theorem Ga{l:Do}{n:Nat}(h:l.length=n):mY (b4 l) n=aT l:=by rw[xm (by simpa [b4]using h),sT]
theorem qx(l:Do)(a:Nat):b4 (l++[a])=b4 l++[(a:Int)]:=by rw[b4,agY];rfl
theorem Fj(l:Do):(b4 l).length=l.length:=by simp[b4]
theorem AB(l:N2){i:Nat}(h:i<l.length):(dF l).getD i []=[.v (.bool (l.getD i false))]:=by
 rw[dF,ae2,aeE,aeC h,ae2,aeC h];rfl
theorem Uh(ends:N2){i:Nat}(h:i<ends.length):p0 (ends.take (i+1))=p0 (ends.take i)++[if ends.getD i false then 1 else 0]:=by
 rw[p0,p0,agO h,agY,ae2,aeC h];rfl
theorem Wh{α:Type} [DecidableEq α]:∀(keys:List α),∀x∈(keys.foldl wy (([]:List α),([]:Do))).1,x∈keys:=by
 refine iq (λx h=>by simp at h) ?_;intro l a ih x q;rw[List.foldl_append]at q;simp only[List.foldl_cons,List.foldl_nil,wy]at q
 split at q
 ·exact af8 _ (ih x q)
 ·rcases List.mem_append.1 q with q|q
  ·exact af8 _ (ih x q)
  ·exact List.mem_append_right _ q
theorem Qn{labs:B0}{rows:N3}{ends:N2}(hn:rows.length<=1000)(hE:ends.length=rows.length)(hR:∀r∈rows,lZ (r.map Prod.fst))(hL:∀r∈rows,∀l∈r.map Prod.fst,l∈labs)(hs:tv rows)(h0:0<rows.length)(hT:∀r∈rows,∀p∈r,p.2<rows.length)(hl:labs.length<=1000) :
  aj prog 104 [.aB 1 (fq (rows.map (iW labs))) rows.length,.aB 1 (dF ends) rows.length] (.aB 1 (aT (b9 rows ends)) rows.length):=by
 have hP:=MM hR hL hs h0 (ends:=ends)
 have hA:aU 0 [AV.aB 1 (fq (rows.map (iW labs))) rows.length,.aB 1 (dF ends) rows.length]=true:=by simp only[aU,AV.wf,oL,qb,agA]
 have hF:(AV.aB 1 (aT (b9 rows ends)) rows.length).wf 0=true:=by simp only[AV.wf,jv]
 rw[<-hP]at hF⊢;generalize hrv:AV.aB 1 (aT (qZ labs rows (rows.length+1) (p0 ends) 1 true)) rows.length=rv at hF⊢
 have eT:∀i,i<rows.length->(fq (rows.map (iW labs))).getD i []=[.aB 1 ((iW labs (rows.getD i [])).map encI) labs.length]:=λi hi=>by
  rw[sP _ (by rw[agG];exact hi),ags,fD,ae2,aeC hi];rfl
 have eLT:(fq (rows.map (iW labs))).length=rows.length:=by rw[gS,agG]
 have eLE:(dF ends).length=rows.length:=by rw[jI,hE]
 generalize hnn:rows.length=n at *
 (refine aj.iA func104 rfl zo zo rfl hA hF ?_;simp only[ntmps104,results104,afa,aeq,Nat.reduceAdd,Nat.reduceSub,afU,List.replicate_zero,List.cons_append,List.nil_append])
 have eZ:=tT n
 (refine ak eZ ?_;intro K hK)
 refine aO (ι:=Nat) 14 (λi=>[(7,.v (.int .i64 i))]) (λi=>[some ⟨3,1,true,mY (b4 (p0 (ends.take i))) n⟩]) (λi=>n-i) (λi=>i<=n) 0 (aex _) ?_ ?_
 ·simp only[List.take_zero,p0,agE,b4];refine ab (bJ ?_) ar ar
  all_goals rfl
 ·intro i hi K hK;have eW:=ag (k:=i) zd
  (revert K;revert K;refine ae ?_;intro K hK K hK K hK)
  refine cn.part (λh=>?_) (λh=>?_)
  ·have A:i<n:=by replace h:=cq h;omega
   have eE:=AB ends (i:=i) zd;have eP:=Uh ends (i:=i) zd
   have lA:(b4 (p0 (ends.take i))).length=i:=by rw[Fj,p0,agG,List.length_take];omega
   have O:(mY (b4 (p0 (ends.take i))) n).length=n:=kX zd;have g0:=pW lA A;have sQ:=tS 1 lA A;have sK:=QY lA A
   cases hb:ends.getD i false
   ·rw[hb]at eE eP
    ((iterate 3 revert K);refine ak (nq h eE eLE) ?_)
    refine ak eW ?_;refine aw.mk (i+1) zd zd ?_;rw[eP,qx];simp only[Bool.false_eq_true,if_false,Int.natCast_zero];rw[sK];exact ab ar ar ar
   ·rw[hb]at eE eP
    ((iterate 3 revert K);refine Cv (oT h eE eLE O g0 sQ) ?_)
    refine ak eW ?_;refine aw.mk (i+1) zd zd ?_;rw[eP,qx];simp only[if_true];rw[show((1:Nat):Int)=1 from rfl];exact ab ar ar ar
  ·have W:i=n:=by replace h:=cq h;omega
   have e1:mY (b4 (p0 (ends.take i))) n=aT (p0 ends):=by
    rw[W, <- hE,List.take_length];exact Ga (by rw[p0,agG])
   rw[e1]
   have lP:(aT (p0 ends)).length=n:=by rw[aT,agG,p0,agG,hE]
   ((iterate 3 revert K);refine dG 8 ?_;intro K hK K hK)
   refine bl (gy 5 0 rfl rfl rfl lP) zo ?_;simp only[afS,afR]
   (revert K;revert K;refine ae ?_;intro K hK)
   have hI:∀part,n=rows.length->((iS labs rows part n).2=(fA rows part n).2∧(iS labs rows part n).1.length=(fA rows part n).1.length):=λpart e=>tR hR hL hs zd
   refine bg (ι:=Do×Nat×Nat) 14 (λy=>[(5,.aB 1 (aT y.1) n),(6,.v (.int .i64 y.2.1)),(8,.v (.int .i64 y.2.2)),(9,.undef),(10,.undef),(11,.undef),(12,.undef),(13,.undef)]) (λy=>n+1-y.2.2) (λy=>y.1.length=n∧y.2.1<=n+1∧y.2.2<=n+1∧AV.aB 1 (aT (qZ labs rows (n+1-y.2.2) y.1 y.2.1 (y.2.2==0))) n=rv) (p0 ends,1,0) ⟨by rw[p0,agG];exact hE,by show 1<=n+1;omega,aex _,hrv⟩ ?_ ?_
   ·refine ab (bJ ?_) ar ar
    all_goals first|rfl|exact⟨rfl,rfl⟩
   ·rintro⟨part,many,round⟩ ⟨q1,q2,q3,H⟩ K hK;simp only at q1 q2 q3 H;have eW2:=ag (k:=round) zd
    (revert K;revert K;refine ae ?_;intro K hK K hK K hK)
    refine cn.part (λh2=>?_) (λh2=>?_)
    ·have hrn:round<=n:=by replace h2:=cq h2;omega
     rw[show n+1-round=(n-round)+1 by omega,qZ,hnn]at H
     ((iterate 3 revert K);refine ak eZ ?_;iterate 4 intro K hK)
     refine gu (ι:=Nat) 9 56 1 rfl zs 14 (λi=>[(9,.vec 2 (iS labs rows part i).1.length),(11,.v (.int .i64 i))]) (λi=>[none,some ⟨3,1,true,mY (b4 (iS labs rows part i).2) n⟩,some ⟨56,1,true,fq (iS labs rows part i).1⟩]) (λi=>n-i) (λi=>i<=n) 0 (aex _) ?_ ?_
     ·simp only[iS,List.range_zero,agE,List.foldl_nil,b4];refine ab (bJ ?_) (bJ ?_) ar
      all_goals rfl
     ·intro i hi K hK
      have lPn:(aT part).length=n:=by rw[aT,agG];exact q1
      have hIi:=tR (part:=part) hR hL hs (n:=i) zd;have okI:=jn rows part i
      have V:(iS labs rows part i).2.length=i:=by rw[hIi.1];exact okI.len
      have l1:(iS labs rows part i).1.length<=i:=by rw[hIi.2];exact okI.le
      have U:∀l∈(iS labs rows part i).1,l.length=labs.length+1:=λl hl=>by
       obtain⟨j,_,rfl⟩:=List.mem_map.1 (Wh _ l hl);rw[jO,afa,agG,fD]
      have eS:iS labs rows part (i+1)=wy (iS labs rows part i) (jO labs rows part i):=by rw[iS,List.range_succ,agY,List.foldl_append];rfl
      generalize hRR:iS labs rows part i=RR at *;obtain⟨rr,nn⟩:=RR;simp only at l1 V U
      ((iterate 5 revert K);refine ae ?_;iterate 6 intro K hK)
      refine cn.part (λh3=>?_) (λh3=>?_)
      ·have A:i<n:=by replace h3:=cq h3;omega
       have eP:(aT part).getD i []=[.v (.int .i64 (part.getD i 0:Nat))]:=by rw[aT,ae2,aeE,aeC zd,ae2,aeC zd];rfl
       have eTi:=eT i A
       have lT:((iW labs (rows.getD i [])).map encI).length=labs.length:=by rw[agG,fD]
       have lK:(jO labs rows part i).length=labs.length+1:=by rw[jO,afa,agG,fD]
       ((iterate 6 revert K);refine ak (nq h3 eP lPn) ?_;iterate 7 intro K hK)
       refine aO (ι:=Nat) 14 (λk=>[(12,.vec 3 (k+1)),(13,.v (.int .i64 k))]) (λk=>[none,some ⟨3,1,true,mY (b4 nn) n⟩,some ⟨56,1,true,fq rr⟩,some ⟨3,1,true,((jO labs rows part i).take (k+1)).map encI⟩]) (λk=>labs.length-k) (λk=>k<=labs.length) 0 (aex _) ?_ ?_
       ·simp only[jO,List.take_succ_cons,List.take_zero,List.map_cons,agE,encI];refine ab (bJ ?_) ar ar
        all_goals first|rfl|exact⟨rfl,rfl⟩
       ·intro k hk K hK;have eWk:=ag (k:=k) zd
        repeat(first|(with_reducible first|refine bG.up ?_|refineλ(K:AK)hK=>?_|(refine hK _ ?_;clear hK K))|simp only[go_sem,eTi,eLT]|with_reducible refine wA ?_|clear hK K)
        refine cn.part (λY=>?_) (λY=>?_)
        ·have hlk:k<labs.length:=by replace Y:=cq Y;omega
         have hkR:k<(iW labs (rows.getD i [])).length:=by rw[fD];exact hlk
         have eGk:=Pk (iW labs (rows.getD i [])) hkR
         have lTk:(((jO labs rows part i).take (k+1)).map encI).length=k+1:=by rw[agG,List.length_take];omega
         have eN:((jO labs rows part i).take (k+1)).map encI++[[.v (.int .i64 (if(iW labs (rows.getD i []))[k]<0 then -1 else((part.getD ((iW labs (rows.getD i []))[k]).toNat 0:Nat):Int)))]]=((jO labs rows part i).take (k+1+1)).map encI:=by
          rw[show(jO labs rows part i).take (k+1+1)=(jO labs rows part i).take (k+1)++[(jO labs rows part i)[k+1]]from agO zd,agY]
          congr 1
          simp only[jO,List.getElem_cons_succ,ags,List.map_cons,agE,encI]
         have hrng: ¬(iW labs (rows.getD i []))[k]<0->((iW labs (rows.getD i []))[k]).toNat<n:=λhh=>by
          simp only[iW,ags]at hh⊢
          cases hq:look (rows.getD i []) labs[k]with
          |none=>rw[hq]at hh;exact absurd zs hh
          |some t=>
           simp only[Int.toNat_natCast];exact hT _ (bK (d:=[]) zd) _ (lH hq)
         generalize htt:(iW labs (rows.getD i []))[k]=tt at *
         by_cases ht:tt<0
         ·have d1:decide (tt<0)=true:=decide_eq_true ht;rw[if_pos ht]at eN
          repeat(first|(with_reducible first|refine bG.up ?_|refineλ(K:AK)hK=>?_|(refine hK _ ?_;clear hK K))|simp only[go_sem,Y,eTi,eLT,eGk,lT,d1,lTk,eN]|with_reducible refine wA ?_|clear hK K)
          refine ak eWk ?_;refine aw.mk (k+1) zd zd ?_;exact ab ar ar ar
         ·have d1:decide (tt<0)=false:=decide_eq_false ht;have hrn2:=hrng ht;have hnat:((tt.toNat:Nat):Int)=tt:=Int.toNat_of_nonneg zd;rw[if_neg ht]at eN;generalize tt.toNat=tn at *;subst hnat
          have eP2:(aT part).getD tn []=[.v (.int .i64 (part.getD tn 0:Nat))]:=by rw[aT,ae2,aeE,aeC zd,ae2,aeC zd];rfl
          repeat(first|(with_reducible first|refine bG.up ?_|refineλ(K:AK)hK=>?_|(refine hK _ ?_;clear hK K))|simp only[go_sem,Y,eTi,eLT,eGk,lT,d1,lTk,eN,eP2,lPn]|with_reducible refine wA ?_|clear hK K)
          refine ak eWk ?_;refine aw.mk (k+1) zd zd ?_;exact ab ar ar ar
        ·have hkl:k=labs.length:=by replace Y:=cq Y;omega
         rw[hkl,show(jO labs rows part i).take (labs.length+1)=jO labs rows part i by rw[<-lK,List.take_length]]
         repeat((fail_if_success (with_reducible refine mn (i:=23) ?_));first|(with_reducible first|refine bG.up ?_|refineλ(K:AK)hK=>?_|(refine hK _ ?_;clear hK K))|simp only[go_sem]|with_reducible refine wA ?_|clear hK K)
         refine bl (gy 12 3 rfl rfl rfl (by rw[agG,lK])) zo ?_;simp only[afS,afR];have AT:=Oh rr (jO labs rows part i) zd (λl hl=>by have:=U l hl;omega) zd;rw[V7]at AT;rw[lK]at AT;rw[wy]at eS;simp only at eS
         have lN:(b4 nn).length=i:=by rw[Fj];exact V
         have O:(mY (b4 nn) n).length=n:=kX zd;have g0:=pW lN A;have sQ:=λv=>tS v lN A;have gQ:=λu=>DB (n:=n) u lN;have sR:=λu v=>zj (n:=n) u v lN;have eL2:∀v:Int,(mY (b4 nn++[v]) n).length=n:=λv=>kX (by rw[aew,agK];omega);have eWi:=ag (k:=i) zd
         ((iterate 7 revert K);refine ae ?_;iterate 8 intro K hK)
         cases hp:rr.findIdx? (λy=>decide (jO labs rows part i=y))with
         |some j=>
          rw[hp]at AT eS;simp only at AT eS;have d2:decide ((j:Int)<0)=false:=bi;refine ai.Ct AT 8 rfl (by simp only[go_sem,Nat.reduceLT,Nat.reduceLeDiff,Nat.reduceEqDiff,agB,agC,and_self,oL,gS]) rfl ?_
          ((iterate 8 revert K);refine Cv (oT O g0 sQ d2 gQ eL2) ?_)
          refine ak eWi ?_;refine aw.mk (i+1) zd zd ?_;rw[eS,qx];exact ab ar ar ar
         |none=>
          rw[hp]at AT eS;simp only at AT eS
          have eLr:fq rr++[[AV.aB 1 ((jO labs rows part i).map encI) (labs.length+1)]]=fq (rr++[jO labs rows part i]):=by
           rw[fq,fq,agY, <- lK];rfl
          refine ai.Ct AT 8 rfl (by simp only[go_sem,Nat.reduceLT,Nat.reduceLeDiff,Nat.reduceEqDiff,agB,agC,and_self,oL,gS]) rfl ?_
          ((iterate 8 revert K);refine Cv (qq O g0 sQ gQ eL2) ?_)
          refine Cv (pG eL2 gQ sR eLr) ?_;refine ak eWi ?_;refine aw.mk (i+1) zd zd ?_;rw[eS,qx];simp only[aew,afa,aeq];exact ab ar ar ar
      ·have W:i=n:=by replace h3:=cq h3;omega
       rw[W]at hRR V;rw[hRR]at H;simp only at H;rw[Ga V]
       have lNN:(aT nn).length=n:=by rw[aT,agG];exact V
       ((iterate 6 revert K);refine dG 27 ?_;iterate 4 intro K hK)
       refine bl (gy 10 1 rfl rfl rfl lNN) zo ?_;simp only[afS,afR]
       have next:(¬(rr.length=many∧(round==0)=false))->AV.aB 1 (aT (qZ labs rows (n+1-(round+1)) nn rr.length (round+1==0))) n=rv:=λhno=>by
        rw[if_neg hno]at H;rw[show n+1-(round+1)=n-round by omega,show(round+1==0)=false by simp];exact H
       by_cases hm:rr.length=many
       ·have d1:((rr.length:Int)==(many:Int))=true:=by simp[hm]
        by_cases hr0:0<round
        ·have d2:decide ((0:Int)<(round:Int))=true:=b0;rw[if_pos ⟨hm,ahy⟩]at H
         ((iterate 4 revert K);refine dj (rL d1 d2) ?_)
         rw[<-H];exact bB.Ab (jv _ _)
        ·have d2:decide ((0:Int)<(round:Int))=false:=bi
         have q5:=next λq=>by have:=q.2;simp at this;omega
         ((iterate 4 revert K);refine dj (rL d1 d2) ?_)
         refine ak eW2 ?_;refine aw.mk (nn,rr.length,round+1) ⟨V,by show rr.length<=n+1;omega,by show round+1<=n+1;omega,q5⟩ (by show n+1-(round+1)<n+1-round;omega) ?_;exact ab ar ar ar
         all_goals trace_state
       ·have d1:((rr.length:Int)==(many:Int))=false:=by simp[Int.natCast_inj,hm]
        have q5:=next λq=>hm q.1
        ((iterate 4 revert K);refine dj d1 ?_)
        refine ak eW2 ?_;refine aw.mk (nn,rr.length,round+1) ⟨V,by show rr.length<=n+1;omega,by show round+1<=n+1;omega,q5⟩ (by show n+1-(round+1)<n+1-round;omega) ?_;exact ab ar ar ar
        all_goals trace_state
    ·have hrn:round=n+1:=by replace h2:=cq h2;omega
     rw[hrn,Nat.sub_self,qZ]at H
     ((iterate 3 revert K);refine ae ?_)
     rw[<-H];exact bB.Ab (jv _ _)
def XI(a b:ByteArray):Bool:=Op.bytesLess a.toList b.toList
theorem Kk{a b:ByteArray}:XI a b=true↔a.data.toList<b.data.toList:=by
 rw[XI,bytesLess_eq,decide_eq_true_eq,ByteArray.toList_eq,ByteArray.toList_eq]
def db(l:B0):B0:=(Go.Lib.compact ((l.map (λs=>s.data.toList)).mergeSort (λx y=>decide (x<=y)))).map (λl=>⟨l.toArray⟩)
theorem Ja(x:Ex):db (aH x)=ct x:=rfl
theorem oD(l:B0):lZ (db l):=by
 grind[lZ,db,mH]
theorem qF{l:B0}{s:ByteArray}:s∈db l↔s∈l:=by
 rw[db,List.mem_map]
 constructor
 ·rintro⟨l,h,rfl⟩
  have:=((mH _).2 l).1 h
  obtain⟨t,q,rfl⟩:=List.mem_map.1 this;omega
 grind[mH,List.mem_map_of_mem]
theorem M6(l:B0):(db l).length<=l.length:=(oF (oD l)).length_le_of_subset λ_ h=>qF.1 h
theorem M7:db []=[]:=by
 cases h:db []with
 |nil=>rfl
 |cons a l=>
  grind[List.mem_cons_self,qF]
structure Sk(l:B0)(s:ByteArray)(k:Nat):Prop where
 le:k<=l.length
 lo:∀(j:Nat)(h:j<l.length),j<k->XI l[j] s=true
 hi:∀h:k<l.length,XI l[k] s=false
theorem Mi{L:B0}{s:ByteArray}{k:Nat}(q:k<(db L).length)(e:(db L)[k]=s):db L=db (L++[s]):=by
 grind[mX,oD,qF,age,afy]
theorem TF{L:B0}{s:ByteArray}{k:Nat}(h:Sk (db L) s k)(H:∀A:k<(db L).length,(db L)[k]≠s):(db L).take k++s::(db L).drop k=db (L++[s]):=by
 have R:=oD L
 refine mX ?_ (oD _) λt=>?_
 ·rw[lZ,List.pairwise_append,List.pairwise_cons]
  have lo:∀a∈(db L).take k,a.data.toList<s.data.toList:=λa u=>by
   obtain⟨j,O,rfl⟩:=List.getElem_of_mem u;rw[List.length_take]at O;rw[List.getElem_take];exact Kk.1 (h.lo j zd zd)
  have hi:∀a∈(db L).drop k,s.data.toList<a.data.toList:=λa u=>by
   obtain⟨j,O,rfl⟩:=List.getElem_of_mem u;rw[List.length_drop]at O;rw[List.getElem_drop]
   have A:k<(db L).length:=zd
   have W: ¬(db L)[k].data.toList<s.data.toList:=λq=>by
    have:=h.hi A;grind[Kk]
   have U:s.data.toList<(db L)[k].data.toList:=by
    refine Classical.byContradiction λq=>H A ?_
    grind[List.le_antisymm,List.not_lt,ByteArray.ext,Array.toList_inj]
   cases j with
   |zero=>exact U
   |succ j=>exact List.lt_trans U (List.pairwise_iff_getElem.1 R k (k+(j+1)) A zd zd)
  exact⟨R.sublist (List.take_sublist _ _),⟨λa u=>hi a u,R.sublist (List.drop_sublist _ _)⟩,λa u b V=>by
   grind⟩
 grind[qF,age,List.take_append_drop]
theorem Ku{rows:N3}:∀(f:Nat){part:Do}{many:Nat},(∀s,s<rows.length->part.getD s 0<rows.length)->∀s,s<rows.length->(qP rows f part many).getD s 0<rows.length
 |0,part,many,h=>by grind[qP]
 |f+1,part,many,h=>by
  have q:∀s,s<rows.length->(gG rows part).getD s 0<rows.length:=λs u=>Nat.lt_of_lt_of_le (lJ rows u) (pR rows part);rw[qP]
  split
  ·exact q
  ·exact Ku f q
theorem MN{rows:N3}{ends:N2}{s:Nat}(q:s<rows.length):(b9 rows ends).getD s 0<rows.length:=by
 have u:∀s,s<rows.length->(gG rows (p0 ends)).getD s 0<rows.length:=λs q=>Nat.lt_of_lt_of_le (lJ rows q) (pR rows (p0 ends));rw[b9,show rows.length+2=(rows.length+1)+1 from rfl,qP]
 split
 ·exact u s q
 ·exact Ku _ u s q
def FI(part order:Do)(n:Nat):M2:=(List.range n).map (λp=>match kV part order p with
 |some k=>(k:Int)
 |none=> -1)
theorem tw(part order:Do)(n:Nat):(FI part order n).length=n:=by simp[FI]
theorem xd{part order:Do}{n p:Nat}(h:p<n):(FI part order n)[p]?=some (match kV part order p with
 |some k=>(k:Int)
 |none=> -1):=by grind[FI,List.getElem?_range]
theorem MV(part order:Do)(t x:Nat):kV part (order++[t]) x=match kV part order x with
 |some k=>some k
 |none=>if x=part.getD t 0 then some order.length else none:=by
 rw[kV,List.map_append,List.findIdx?_append];rw[kV]
 cases(order.map (λs=>part.getD s 0)).findIdx? (λy=>x==y)with
 |some k=>rfl
 |none=>
  simp_all
theorem Qc{part order:Do}{n t:Nat}(hn:kV part order (part.getD t 0)=none)(q:part.getD t 0<n):(FI part order n).set (part.getD t 0) (order.length:Int)=FI part (order++[t]) n:=by
 refine List.ext_getElem? λi=>?_
 by_cases hi:i<n
 ·rw[xd hi,MV]
  by_cases e:part.getD t 0=i
  ·grind[List.getElem?_set_self,tw]
  ·rw[List.getElem?_set_ne e,xd hi]
   grind
 grind[ahs,List.length_set,tw]
theorem MF(part:Do)(n:Nat):FI part [] n=List.replicate n (-1):=by
 refine List.ext_getElem? λi=>?_
 by_cases hi:i<n
 ·rw[xd hi,List.getElem?_replicate,if_pos hi];rfl
 grind[ahs,tw,List.length_replicate]
def Jb(part:Do)(row:bC)(labs:B0)(order:Do):Do:=labs.foldl (λo l=>DA part o (look row l)) order
theorem F8(part:Do)(row:bC)(labs:B0)(l:ByteArray)(order:Do):Jb part row (labs++[l]) order=DA part (Jb part row labs order) (look row l):=by rw[Jb,List.foldl_append];rfl
theorem W4{part:Do}{row:bC}{n:Nat}{order:Do}(hn:(order.map (λs=>part.getD s 0)).Nodup)(hl:∀s∈order,s<n)(O:∀p∈row,p.2<n):∀labs:B0,
  ((Jb part row labs order).map (λs=>part.getD s 0)).Nodup∧(∀s∈Jb part row labs order,s<n)∧∃t,Jb part row labs order=order++t:=by
 refine iq ⟨hn,hl,[],by simp[Jb]⟩ ?_;rintro labs l ⟨V,A,t,U⟩;rw[F8]
 cases H:look row l with
 |none=>exact⟨V,A,t,U⟩
 |some u=>
  rw[DA]
  cases W:kV part (Jb part row labs order) (part.getD u 0)with
  |some k=>grind
  |none=>
   refine⟨?_,λs q=>?_,t++[u],by grind⟩
   ·grind[List.nodup_append,age,Bn]
   ·rcases List.mem_append.1 q with q|q
    ·exact A s q
    ·rw[age]at q;subst q;exact O _ (lH H)
theorem ID(x:Ex):∀(L:B0),aD x=true->L.length+(aH x).length<=1000->aj prog 138 [.agg (aN x),bY (db L)] (bY (db (L++aH x))):=by
 induction x using Ex.ind with
 |h kd s l ih=>
  intro L hr Y;have hRL:=M6 L
  have hF:(bY (db (L++aH (.mk kd s l)))).wf 0=true:=by simp only[bY,AV.wf,bz]
  have hA:aU 0 [AV.agg (aN (.mk kd s l)),bY (db L)]=true:=by simp only[bY,aU,AV.wf,fp,bz,Bool.and_self]
  by_cases U:kd=1
  ·subst U
   have eL:aH (.mk 1 s l)=[s]:=by rw[aH,if_pos rfl]
   rw[eL]at hF Y⊢;have hT:=λk(q:k<(db L).length)(e:(db L)[k]=s)=>Mi q e;have hI:=λk(q:Sk (db L) s k)h=>TF q h;generalize A:bY (db (L++[s]))=rv at hF⊢;generalize db L=m at *;simp only[List.length_append,List.length_singleton]at Y;simp only[aA,bY,Ex.kind,Ex.label,Ex.kids]at hA A⊢
   (refine aj.iA func138 rfl zo zo rfl hA hF ?_;simp only[ntmps138,results138,List.length_cons,List.length_nil,Nat.reduceAdd,Nat.reduceSub,List.replicate_succ,List.replicate_zero,List.cons_append,List.nil_append])
   (refine bj ?_;intro K hK K hK)
   refine bg (ι:=Nat) 8 (λk=>[(5,.v (.int .i64 k))]) (λk=>m.length-k) (λk=>k<=m.length∧∀(j:Nat)(h:j<m.length),j<k->XI m[j] s=true) 0 ⟨Nat.zero_le _,λj _ h=>absurd h (Nat.not_lt_zero _)⟩ ?_ ?_
   ·refine ab (bJ ?_) ar ar
    all_goals rfl
   ·rintro k ⟨U,H⟩ K hK;have eW:=ag (k:=k) zd
    have fin:∀(h:Sk m s k),(∀q:k<m.length,m[k]≠s)->AV.aB 1 ((m.take k).map encS++([AV.v (.string s)]::(m.drop k).map encS)) (k+(m.length-k+1))=rv:=λh hne=>by
     have e:=hI k h hne
     have el:(k+(m.length-k+1))=(db (L++[s])).length:=by rw[<-e];simp;omega
     rw[<-A,el, <- e];simp[encS]
    have r1:((m.map encS).drop k).take (m.length-k)=(m.drop k).map encS:=by
     rw[<-List.map_drop];exact List.take_of_length_le zk
    have r2:(m.drop k).length=m.length-k:=zk
    have r3:(m.map encS).take k=(m.take k).map encS:=by rw[List.map_take]
    have r4:(m.take k).length=k:=ahy
    by_cases d1:k<m.length
    ·have V:decide ((k:Int)<(m.length:Int))=true:=b0;have eG:=getD_map encS m k [] d1;simp only[encS]at eG
     cases e2:XI m[k] s
     ·have O:Sk m s k:=⟨U,H,λ_=>e2⟩;have e3:Op.bytesLess m[k].toList s.toList=false:=e2
      by_cases W:m[k]=s
      ·have f1:(m[k].toList==s.toList)=true:=by rw[W];simp
       have hrr:=hT k d1 W
       ((iterate 3 revert K);refine cw (pG V eG e3 f1) ?_)
       rw[<-A, <- hrr];exact bB.Ab (bz 0 _)
      ·have f1:(m[k].toList==s.toList)=false:=by
        cases hh:(m[k].toList==s.toList)
        ·rfl
        ·exact absurd (toList_inj.1 hh) W
       have hf:=fin O λ_=>W
       ((iterate 3 revert K);refine AG 7 (pG V eG e3 f1) ?_;intro K hK K hK)
       refine bE [2,6] [(5,0)] za zo ?_
       (revert K;revert K;refine E6 (pG r1 r2 r3 r4) ?_)
       rw[<-hf];exact bB.sg (ob:=⟨9,1,true,(m.take k).map encS++([AV.v (.string s)]::(m.drop k).map encS)⟩) rfl rfl ahy (by rw[gz,bz];exact bz 0 (s::m.drop k))
     ·have e3:Op.bytesLess m[k].toList s.toList=true:=e2
      ((iterate 3 revert K);refine cw (nq V eG e3) ?_)
      refine aM eW ?_
      exact aw.mk (k+1) ⟨d1,λj hj hjk=>by
       rcases Nat.lt_succ_iff_lt_or_eq.1 hjk with q|rfl
       ·exact H j hj q
       ·exact e2⟩ zd (by exact ab ar ar ar)
    ·have V:decide ((k:Int)<(m.length:Int))=false:=bi;have hf:=fin ⟨U,H,λh=>absurd h d1⟩ λh=>absurd h d1
     ((iterate 3 revert K);refine AG 7 V ?_;intro K hK K hK)
     refine bE [2,6] [(5,0)] za zo ?_
     (revert K;revert K;refine E6 (pG r1 r2 r3 r4) ?_)
     rw[<-hf];exact bB.sg (ob:=⟨9,1,true,(m.take k).map encS++([AV.v (.string s)]::(m.drop k).map encS)⟩) rfl rfl ahy (by rw[gz,bz];exact bz 0 (s::m.drop k))
  ·have eL:aH (.mk kd s l)=aV l:=dM U s l;rw[eL]at hF Y⊢
   have hlen:l.length<=1000:=by
    have:=(fO hr).1
    simp only[aD,Bool.and_eq_true,decide_eq_true_eq]at hr;have h2:=jc kd s l;have h3:=ye l;omega
   simp only[aA,bY,Ex.kind,Ex.label,Ex.kids]at hA⊢
   have f1:(kd==1)=false:=by simpa using U
   refine gE func138 ntmps138 results138 ?_
   (refine aM f1 ?_;intro K hK)
   refine bg (ι:=Nat) 8 (λi=>[(1,.aB 1 ((db (sn L l i)).map encS) (db (sn L l i)).length),(7,.v (.int .i64 i))]) (λi=>l.length-i) (λi=>i<=l.length) 0 (Nat.zero_le _) ?_ ?_
   ·rw[Vn];refine ab (bJ ?_) ar ar
    all_goals rfl
   ·intro i hi K hK;have eW:=ag (k:=i) zd
    (revert K;revert K;refine bj ?_;intro K hK K hK K hK)
    refine cn.part (λh=>?_) (λh=>?_)
    ·have u:i<l.length:=by replace h:=cq h;omega
     have eG:=getD_map aN l i [] u;have C:=ih l[i] (afy u) (sn L l i) (oA hr _ (afy u)) (PN u Y);rw[yB u]at C;simp only[aA,bY]at C eG
     ((iterate 3 revert K);refine aM (rL h eG) ?_;iterate 4 intro K hK)
     ((iterate 4 revert K);refine Cw C eW ?_)
     refine aw.mk (i+1) zd zd ?_;exact ab ar ar ar
    ·have O:i=l.length:=by replace h:=cq h;omega
     have e:sn L l i=L++aV l:=by rw[O,sn,List.take_length]
     rw[e]
     ((iterate 3 revert K);refine bj ?_)
     exact iG.aB (bz 0 _)
theorem M8(x:Ex)(q:aD x=true)(A:(aq x).length<=1000000)(u:∀z,z∈aq x->z.kids.length<=1000000∧z.label.size<=1000000000000000):aj prog 102 [.agg (aN x)] (bY (ct x)):=by
 have R:=qE x A u;rw[q]at R;have hn:=uZ q;have C:=ID x [] q ahy;rw[List.nil_append,Ja,M7]at C;have H:=C.le (args':=[.agg (aN x),.v (.slice none 0 0)]) (by simp only[aU,AV.wf,fp,Bool.and_self]) (.cons (.refl _) (.cons (.nil 1) .nil));simp only[aA,bY]at *;refine gE func102 ntmps102 results102 ?_
 (refine ae ?_;intro K hK K hK K hK)
 ((iterate 3 revert K);refine aK R ?_;intro K hK K hK)
 (revert K;revert K;refine aK H ?_)
 exact iG.aB (bz 0 _)
noncomputable def IP(x:Ex):AV:=match fZ x (ct x)with
 | .inl A=> .ck [.vp (r8 A),.v (.int .i64 0)]
 | .inr e=> .ck [.v (.pointer none),.v (.int .i64 e)]
theorem U8(x:Ex):(IP x).wf 0=true:=by
 unfold IP
 split
 ·simp only[AV.wf,aU,xq,Bool.and_self]
 ·rfl
def rY(part order:Do)(n:Nat):List C5:=(FI part order n).map encI
def QH(part order:Do)(p:Nat):Int:=match kV part order p with
 |some k=>(k:Int)
 |none=> -1
@[go_sem] theorem abU(z:Nat)(part order:Do)(n:Nat):bD z (rY part order n)=true:=bw _ (λ_=>rfl) _
@[go_sem] theorem yR(part order:Do)(n:Nat):(rY part order n).length=n:=by rw[rY,agG,tw]
theorem yQ{part order:Do}{n p:Nat}(h:p<n):(rY part order n).getD p []=[.v (.int .i64 (QH part order p))]:=by
 rw[rY,ae2,aeE,xd h];rfl
theorem FH{part order:Do}{n t:Nat}(hn:kV part order (part.getD t 0)=none)(q:part.getD t 0<n):(rY part order n).set (part.getD t 0) [.v (.int .i64 (order.length:Nat))]=rY part (order++[t]) n:=by
 rw[rY,rY, <- Qc hn q,List.map_set];rfl
theorem ME(part:Do)(n:Nat):mY (List.replicate n (-1)) n=rY part [] n:=by rw[xm zk,rY,MF]
def yS(x:Ex)(labs:B0)(c d:AV)(tl:AC):AC:=some ⟨25,3,false,[[.v (.int .i64 x.kind),.v (.string x.label),.aB 3 (x.kids.map aN) x.kids.length]]⟩ ::some ⟨139,3,false,[[.aB 1 (labs.map encS) labs.length,c,d]]⟩ ::tl
theorem sU(l:Do):(aT l).length=l.length:=by rw[aT,agG]
theorem pB{l:Do}{i:Nat}(h:i<l.length):(aT l).getD i []=[.v (.int .i64 ((l.getD i 0:Nat):Int))]:=by
 rw[aT,ae2,aeE,aeC h,ae2,aeC h];rfl
theorem LP(l:Do)(a:Nat):aT (l++[a])=aT l++[[.v (.int .i64 (a:Nat))]]:=by rw[aT,agY];rfl
theorem Ub(x:Ex)(h1:(aq x).length<=1000000)(hz:∀z,z∈aq x->z.kids.length<=1000000∧z.label.size<=1000000000000000):aj prog 68 [.agg (aN x)] (IP x):=by
 have CN:=qE x h1 hz;have hF:=U8 x
 have hA:aU 0 [AV.agg (aN x)]=true:=by simp only[aU,AV.wf,fp,Bool.and_self]
 have hu:IP x=(if aD x then(match p8 x (ct x)with
  |some st=>if 32<(ji (ct x) st).rows.length then .ck [.v (.pointer none),.v (.int .i64 11)]else .ck [.vp (r8 (ji (ct x) st)),.v (.int .i64 0)]
  |none=> .ck [.v (.pointer none),.v (.int .i64 11)])else .ck [.v (.pointer none),.v (.int .i64 2)]):=by
  unfold IP fZ
  cases aD x
  ·rfl
  ·simp only[if_true]
   cases p8 x (ct x)with
   |none=>rfl
   |some st=>
    by_cases h32:32<(ji (ct x) st).rows.length
    ·simp only[if_pos h32]
    ·simp only[if_neg h32]
 rw[hu]at hF⊢;clear hu
 cases hr:aD x
 ·rw[hr]at CN hF;simp only[Bool.false_eq_true,if_false]at CN hF⊢;simp only[aA]at *;refine gE func68 ntmps68 results68 ?_
  (refine bj ?_;intro K hK K hK K hK)
  ((iterate 3 revert K);refine lD CN ?_)
  (refine iG.of 40 rfl ?_;simp only[go_sem])
 ·have CL:=M8 x hr h1 hz;rw[hr]at CN hF;simp only[if_true]at CN hF⊢;have hln:=C7 hr;have hlE:=uZ hr;have CS:=Q7 hr h1 hz (ct x) (kQ x) zd zd
  cases hst:p8 x (ct x)with
  |none=>
   rw[hst]at CS hF;simp only[pZ]at CS;simp only[aA,bY]at *;refine gE func68 ntmps68 results68 ?_
   (refine bj ?_;intro K hK K hK K hK)
   ((iterate 3 revert K);refine lD CN ?_;intro K hK K hK)
   (revert K;revert K;refine lD CL ?_;intro K hK K hK)
   (revert K;revert K;refine rM CS ?_)
   (refine iG.of 40 rfl ?_;simp only[go_sem])
  |some ss=>
   rw[hst]at CS hF;obtain⟨ho,hl,hw⟩:=DH (bf (aZ x)) (aZ x).em (az (aZ x).la) (kQ x) hst;obtain⟨g1,g2,g3⟩:=Q8 hr hst;have hmax:=ho.max;have hE:=ho.ends;have hT:=vq ho hl;have hN:=KN (kQ x) ho;have hsub:∀r∈ss.rows,(r.map Prod.fst).Sublist (ct x):=λr h=>(ho.row r h).1;have CP:=Qn (labs:=ct x) (rows:=ss.rows) (ends:=ss.ends) zd hE (λr h=>(qy x).sublist (hsub r h)) (λr h l hl=>(hsub r h).subset hl) (vo (C8 hr) ho) g2 hT zd;have hpl:∀s,s<ss.rows.length->(b9 ss.rows ss.ends).getD s 0<ss.rows.length:=λs hs=>MN hs;obtain⟨qo,ql,qw⟩:=FA (ends:=ss.ends) hT hN g2 (b9 ss.rows ss.ends);have hnd:=kQ x;have hLd:da ss.rows ss.ends (b9 ss.rows ss.ends)=pe ss.rows ss.ends (b9 ss.rows ss.ends) (ss.rows.length+1) q0:=rfl;simp only[pZ,hE]at CS;simp only at hF⊢;generalize V:(if 32<(ji (ct x) ss).rows.length then AV.ck [.v (.pointer none),.v (.int .i64 11)]else .ck [.vp (r8 (ji (ct x) ss)),.v (.int .i64 0)])=rv at hF⊢
   have hv1:32<(da ss.rows ss.ends (b9 ss.rows ss.ends)).rows.length->AV.ck [.v (.pointer none),.v (.int .i64 11)]=rv:=λh=>by rw[<-V];exact(if_pos h).symm
   have hv2: ¬ 32<(da ss.rows ss.ends (b9 ss.rows ss.ends)).rows.length->AV.ck [.vp (r8 ⟨(da ss.rows ss.ends (b9 ss.rows ss.ends)).rows,(da ss.rows ss.ends (b9 ss.rows ss.ends)).ends,ct x⟩),.v (.int .i64 0)]=rv:=λh=>by rw[<-V];exact(if_neg h).symm
   clear V;generalize hpart:b9 ss.rows ss.ends=part at *;generalize hL:da ss.rows ss.ends part=L at *;obtain⟨all,rows,ends⟩:=ss;simp only at *;clear hst hw g1 ho;generalize ct x=labs at *
   have eT:∀i,i<rows.length->(fq (rows.map (iW labs))).getD i []=[.aB 1 ((iW labs (rows.getD i [])).map encI) labs.length]:=λi hi=>by
    rw[sP _ (by rw[agG];exact hi),List.getElem_map,fD,ae2,aeC hi];rfl
   have eLT:(fq (rows.map (iW labs))).length=rows.length:=by rw[gS,agG]
   have eLE:(dF ends).length=rows.length:=by rw[jI,hE]
   have lP:(aT part).length=rows.length:=by rw[sU];exact g3
   have tV:∀(r:bC)(k:Nat)(h:k<labs.length),((iW labs r).map encI).getD k []=[.v (.int .i64 (match look r labs[k]with|some t=>(t:Int)|none=> -1))]:=λr k h=>by
    rw[Pk (iW labs r) (by rw[fD];exact h)];simp only[iW,List.getElem_map];cases look r labs[k]<;>rfl
   have tL:∀r:bC,((iW labs r).map encI).length=labs.length:=λr=>by rw[agG,fD]
   have eP0:=pB (l:=part) (i:=0) zd;have hp0:=hpl 0 g2;have eZ:=tT rows.length;generalize hnn:rows.length=n at *;simp only[aA,bY]at *
   (refine aj.iA func68 rfl zo zo rfl hA hF ?_;simp only[ntmps68,results68,afa,aeq,Nat.reduceAdd,Nat.reduceSub,List.replicate_succ,List.replicate_zero,afK,afJ])
   (refine bj ?_;intro K hK K hK K hK)
   ((iterate 3 revert K);refine lD CN ?_;intro K hK K hK)
   (revert K;revert K;refine lD CL ?_;intro K hK K hK)
   (revert K;revert K;refine rM CS ?_;intro K hK K hK)
   (revert K;revert K;refine Cw CP eZ ?_;intro K hK)
   refine aO (ι:=Nat) 19 (λi=>[(11,.v (.int .i64 i))]) (λi=>yS x labs (.v (.slice none 0 0)) (.v (.slice none 0 0)) [some ⟨3,1,true,aT [0]⟩,some ⟨3,1,true,mY (List.replicate i (-1)) n⟩]) (λi=>n-i) (λi=>i<=n) 0 (aex _) ?_ ?_
   ·simp only[yS,List.replicate_zero];refine ab (bJ ?_) (bJ ?_) ar
    all_goals first|rfl|exact⟨rfl,rfl⟩
   ·intro i hi K hK;simp only[yS];have eW:=ag (k:=i) zd
    (revert K;revert K;refine bj ?_;intro K hK K hK K hK)
    refine cn.part (λh=>?_) (λh=>?_)
    ·have W:i<n:=by replace h:=cq h;omega
     have lA:(List.replicate i (-1:Int)).length=i:=List.length_replicate;have eL0:(mY (List.replicate i (-1:Int)) n).length=n:=kX zd;have gZ:=pW lA W;have sQ:=tS (-1) lA W;rw[<-List.replicate_succ']at sQ
     ((iterate 3 revert K);refine yn (pG h eL0 gZ sQ) ?_)
     refine aM eW ?_;refine aw.mk (i+1) zd zd ?_;simp only[yS];exact ab ar ar ar
    ·have hin:i=n:=by replace h:=cq h;omega
     rw[hin,ME part];have gN:=yQ (part:=part) (order:=[]) hp0;have sN:=FH (part:=part) (order:=[]) (n:=n) (t:=0) rfl hp0;simp only[aeq,afJ,Int.natCast_zero]at sN;have lN:=yR part [] n
     ((iterate 3 revert K);refine yn (pG eP0 lP gN sN) ?_;intro K hK)
     refine aO (ι:=BZ) 19 (λst=>[(9,.vec 2 st.order.length),(12,.v (.int .i64 st.rows.length)),(13,.undef),(14,.undef)]) (λst=>yS x labs (.v (.slice none 0 0)) (.v (.slice none 0 0)) [some ⟨3,1,true,aT st.order⟩,some ⟨3,1,true,rY part st.order n⟩]) (λst=>n+1-st.rows.length) (λst=>La rows part st∧pe rows ends part (n+1-st.rows.length) st=L) q0 ⟨KC rows part zd,hLd.symm⟩ ?_ ?_
     ·simp only[yS,q0];refine ab (bJ ?_) ar ar
      all_goals first|rfl|exact⟨rfl,rfl⟩
     ·rintro st ⟨hok,q⟩ K hK;simp only[yS];have hle:=hok.le;have hlt':=hok.lt;rw[hnn]at hlt';have hol:=mQ part hok.nd hlt';have U:=sU st.order
      (revert K;revert K;refine aM U ?_;intro K hK K hK K hK)
      refine cn.part (λh2=>?_) (λh2=>?_)
      ·have W:st.rows.length<st.order.length:=by replace h2:=cq h2;omega
       have hcu:fC st<n:=hlt' _ (bK W);rw[show n+1-st.rows.length=(n-st.rows.length)+1 by omega,pe,if_pos W]at q;have Y:=hT _ (bK (d:=[]) (show fC st<rows.length by omega));have FO:=W4 (part:=part) (row:=rows.getD (fC st) []) hok.nd hlt' Y;have hfin:=UE (row:=rows.getD (fC st) []) part st.order hnd (hsub _ (bK (d:=[]) (show fC st<rows.length by omega)))
       ((iterate 3 revert K);refine aM h2 ?_;intro K hK K hK K hK)
       refine aO (ι:=Nat) 19 (λk=>[(9,.vec 2 (Jb part (rows.getD (fC st) []) (labs.take k) st.order).length),(13,.v (.int .i64 k)),(14,.undef)]) (λk=>yS x labs (.v (.slice none 0 0)) (.v (.slice none 0 0)) [some ⟨3,1,true,aT (Jb part (rows.getD (fC st) []) (labs.take k) st.order)⟩,some ⟨3,1,true,rY part (Jb part (rows.getD (fC st) []) (labs.take k) st.order) n⟩]) (λk=>labs.length-k) (λk=>k<=labs.length) 0 (aex _) ?_ ?_
       ·simp only[yS,List.take_zero,Jb,List.foldl_nil];refine ab (bJ ?_) ar ar
        all_goals first|rfl|exact⟨rfl,rfl⟩
       ·intro k hk K hK;simp only[yS];have eWk:=ag (k:=k) zd;obtain⟨f1,f2,t0,f3⟩:=FO (labs.take k);have hol2:=mQ part f1 f2
        ((iterate 4 revert K);refine bj ?_;iterate 5 intro K hK)
        refine cn.part (λO=>?_) (λO=>?_)
        ·have H:k<labs.length:=by replace O:=cq O;omega
         have A:=F8 part (rows.getD (fC st) []) (labs.take k) labs[k] st.order;rw[<-agO H]at A;have eV:=tV (rows.getD (fC st) []) k H;have eTq:=eT _ hcu;have eLq:=tL (rows.getD (fC st) [])
         have hcq:(Jb part (rows.getD (fC st) []) (labs.take k) st.order).getD st.rows.length 0=fC st:=by rw[f3,dY W];rfl
         generalize hoo:Jb part (rows.getD (fC st) []) (labs.take k) st.order=oo at *
         have hlo:st.rows.length<oo.length:=by rw[f3,aew];omega
         have eO:=pB hlo;rw[hcq]at eO;have lO:=sU oo;have lNo:=yR part oo n
         cases hq:look (rows.getD (fC st) []) labs[k]with
         |none=>
          rw[hq]at eV A;simp only at eV;rw[DA]at A
          ((iterate 5 revert K);refine aM (L7 O eO lO eTq eLT eLq eV) ?_)
          refine Y0 ?_;refine aM eWk ?_;refine aw.mk (k+1) zd zd ?_;simp only[yS,A];exact ab ar ar ar
          all_goals first|rfl|exact⟨rfl,rfl⟩
         |some t=>
          rw[hq]at eV A;simp only at eV;have htn:t<n:=Y _ (lH hq);have ePt:=pB (l:=part) (i:=t) zd;have hpt:=hpl t htn;have gNt:=yQ (part:=part) (order:=oo) hpt;have d0:decide ((0:Int)<=(t:Int))=true:=b0;rw[DA]at A
          cases hp:kV part oo (part.getD t 0)with
          |some j=>
           rw[hp]at A;simp only at A;rw[QH,hp]at gNt;simp only at gNt;have d1:decide ((j:Int)<0)=false:=bi
           ((iterate 5 revert K);refine aM (L7 O eO lO eTq eLT eLq eV) ?_;iterate 7 intro K hK)
           ((iterate 7 revert K);refine cw (oT d0 d1 ePt lP gNt lNo) ?_)
           refine aM eWk ?_;refine aw.mk (k+1) zd zd ?_;simp only[yS,A];exact ab ar ar ar
           all_goals first|rfl|exact⟨rfl,rfl⟩
          |none=>
           rw[hp]at A;simp only at A;have sNt:=FH hp hpt;rw[QH,hp]at gNt;simp only at gNt
           ((iterate 5 revert K);refine aM (L7 O eO lO eTq eLT eLq eV) ?_;iterate 7 intro K hK)
           ((iterate 7 revert K);refine Cu (oT d0 ePt lP gNt lNo sNt) ?_)
           refine aM eWk ?_;refine aw.mk (k+1) zd zd ?_;simp only[yS,A,LP,aew,agK];exact ab ar ar ar
           all_goals first|rfl|exact⟨rfl,rfl⟩
        ·have hkl:k=labs.length:=by replace O:=cq O;omega
         have hfk:Jb part (rows.getD (fC st) []) (labs.take k) st.order=(gh rows ends part st).order:=by
          rw[hkl,agP];exact hfin
         have hnr:(gh rows ends part st).rows.length=st.rows.length+1:=by rw[gh];simp only[aew,agK]
         have hnok:=tK rows ends part (by rw[hnn];exact hT) hok W;rw[hfk];generalize gh rows ends part st=st2 at *;have eW2:=ag (k:=st.rows.length) zd
         ((iterate 5 revert K);refine bj ?_)
         refine aM eW2 ?_
         refine aw.mk st2 ⟨hnok,?_⟩ ?_ ?_
         ·rw[hnr,show n+1-(st.rows.length+1)=n-st.rows.length by omega];exact q
         ·show n+1-st2.rows.length<n+1-st.rows.length;omega
         ·simp only[yS,hnr];exact ab ar ar ar
          all_goals first|rfl|exact⟨rfl,rfl⟩
      ·have hge: ¬st.rows.length<st.order.length:=by replace h2:=cq h2;omega
       rw[show n+1-st.rows.length=(n-st.rows.length)+1 by omega,pe,if_neg hge]at q
       have hlo:st.order.length=L.rows.length:=by rw[ql,q]
       rw[q]at hok hol hlt'⊢;have u:L.order.length=L.rows.length:=ql.symm;rw[u]at hol;clear q hlo hge h2 hle U;have U:=sU L.order
       ((iterate 3 revert K);refine aM (rL U u) ?_;intro K hK)
       refine cn.part (λh2=>?_) (λh2=>?_)
       ·have h32:32<L.rows.length:=by replace h2:=cq h2;omega
        have V:=hv1 h32
        (revert K;refine bj ?_)
        rw[<-V];exact bB.ck ⟨bB.v _,bB.v _,trivial⟩
       ·have h32: ¬ 32<L.rows.length:=by replace h2:=cq h2;omega
        have V:=hv2 h32
        have Y:∀i(h:i<L.rows.length),∀k(hk:k<labs.length),∀(t:Option Nat),look (rows.getD (L.order.getD i 0) []) labs[k]=t->(iW labs (L.rows.getD i []))[k]?=some (match t with|some t=>QH part L.order (part.getD t 0)|none=> -1):=λi hi k hk t ht=>by
         rw[Nq (labs:=labs) qo qw hi,aeE,iW,aeE,aeC hk,Option.map_some,Option.map_some,ht]
         cases t with
         |none=>rfl
         |some t=>
          simp only[show ¬((t:Int)<0) by omega,if_false,Int.toNat_natCast,QH];cases kV part L.order (part.getD t 0)<;>rfl
        (revert K;refine dG 27 ?_;intro K hK K hK)
        refine bl (dT (k:=1) (i:=0) (j:=1) 56 1 zs rfl (ag4 _) rfl rfl) zo ?_;simp only[afS,afR,afa,aeq,Nat.reduceAdd,afK,afJ];refine bl (dT (k:=1) (i:=0) (j:=2) 4 1 zs rfl (ag4 _) rfl rfl) zo ?_;simp only[afS,afR,afa,aeq,Nat.reduceAdd,afK,afJ];have eZm:=tT labs.length
        (revert K;revert K;refine bj ?_;intro K hK)
        refine aO (ι:=Nat) 19 (λi=>[(13,.undef),(14,.undef),(15,.v (.int .i64 i)),(16,.undef),(17,.undef),(18,.undef)]) (λi=>yS x labs (.vec 4 i) (.vec 5 i) [some ⟨3,1,true,aT L.order⟩,some ⟨3,1,true,rY part L.order n⟩,some ⟨56,1,true,fq ((L.rows.take i).map (iW labs))⟩,some ⟨4,1,true,dF (L.ends.take i)⟩]) (λi=>L.rows.length-i) (λi=>i<=L.rows.length) 0 (aex _) ?_ ?_
        ·simp only[yS];refine ab (bJ ?_) (bJ ?_) ar
         all_goals first|rfl|exact⟨rfl,rfl⟩
        ·intro i hi K hK;simp only[yS];have eWi:=ag (k:=i) zd
         (revert K;revert K;refine aM (rL U u) ?_;intro K hK K hK K hK)
         refine cn.part (λO=>?_) (λO=>?_)
         ·have hil:i<L.rows.length:=by replace O:=cq O;omega
          have hoi:L.order.getD i 0<n:=hlt' _ (bK zd);have eOi:=pB (l:=L.order) (i:=i) zd;have eTq:=eT _ hoi;have eLq:=tL (rows.getD (L.order.getD i 0) []);have hqT:=hT _ (bK (d:=[]) (show L.order.getD i 0<rows.length by omega));have hri:=Y i hil;have lR:(iW labs (L.rows.getD i [])).length=labs.length:=fD _ _;generalize hRi:iW labs (L.rows.getD i [])=Ri at *
          ((iterate 3 revert K);refine aM eZm ?_;iterate 4 intro K hK)
          refine aO (ι:=Nat) 19 (λk=>[(17,.v (.int .i64 k)),(18,.undef)]) (λk=>yS x labs (.vec 4 i) (.vec 5 i) [some ⟨3,1,true,aT L.order⟩,some ⟨3,1,true,rY part L.order n⟩,some ⟨56,1,true,fq ((L.rows.take i).map (iW labs))⟩,some ⟨4,1,true,dF (L.ends.take i)⟩,some ⟨3,1,true,mY (Ri.take k) labs.length⟩]) (λk=>labs.length-k) (λk=>k<=labs.length) 0 (aex _) ?_ ?_
          ·simp only[yS,List.take_zero];refine ab (bJ ?_) ar ar
           all_goals first|rfl|exact⟨rfl,rfl⟩
          ·intro k hk K hK;simp only[yS];have eWk:=ag (k:=k) zd
           have lRk:(Ri.take k).length=k:=by rw[aht];omega
           have eLr:(mY (Ri.take k) labs.length).length=labs.length:=kX zd
           ((iterate 5 revert K);refine aM eLr ?_;iterate 6 intro K hK)
           refine cn.part (λh4=>?_) (λh4=>?_)
           ·have H:k<labs.length:=by replace h4:=cq h4;omega
            have g0:=pW (n:=labs.length) lRk H;have s0:=tS (n:=labs.length) (-1) lRk H;have eL1:(mY (Ri.take k++[-1]) labs.length).length=labs.length:=kX (by rw[aew,agK];omega);have g1:=DB (n:=labs.length) (-1) lRk;have s1:=λv=>zj (n:=labs.length) (-1) v lRk;have eV:=tV (rows.getD (L.order.getD i 0) []) k H;have A:Ri.take (k+1)=Ri.take k++Ri[k]?.toList:=List.take_add_one
            cases hq:look (rows.getD (L.order.getD i 0) []) labs[k]with
            |none=>
             rw[hq]at eV;simp only at eV;rw[hri k H _ hq]at A;simp only[ahu]at A
             repeat(first|(with_reducible first|refine bG.up ?_|refineλ(K:AK)hK=>?_|refine wD ?_|refine au zs ?_|refine ay zs ?_|(refine hK _ ?_;clear hK K))|simp only[go_sem,h4,eLr,g0,s0,eL1,List.drop_succ_cons,List.drop_zero]|with_reducible refine wA ?_|clear hK K)
             ((iterate 8 revert K);refine aM (gB9 eOi U u O eTq eLT eLq eV h4) ?_)
             refine aM eWk ?_;refine aw.mk (k+1) zd zd ?_;simp only[yS,A];exact ab ar ar ar
             all_goals first|rfl|exact⟨rfl,rfl⟩
            |some t=>
             rw[hq]at eV;simp only at eV;rw[hri k H _ hq]at A;simp only[ahu]at A
             have htn:t<n:=by have:=hqT _ (lH hq);omega
             have ePt:=pB (l:=part) (i:=t) zd;have hpt:=hpl t htn;have gNt:=yQ (part:=part) (order:=L.order) hpt;have lNo:=yR part L.order n;have d0:decide ((0:Int)<=(t:Int))=true:=b0
             repeat(first|(with_reducible first|refine bG.up ?_|refineλ(K:AK)hK=>?_|refine wD ?_|refine au zs ?_|refine ay zs ?_|(refine hK _ ?_;clear hK K))|simp only[go_sem,h4,eLr,g0,s0,eL1,List.drop_succ_cons,List.drop_zero]|with_reducible refine wA ?_|clear hK K)
             ((iterate 8 revert K);refine aM (gB9 eOi U u O eTq eLT eLq eV h4) ?_;iterate 6 intro K hK)
             ((iterate 6 revert K);refine yn (Y1 d0 ePt lP gNt lNo eL1 g1 s1) ?_)
             refine aM eWk ?_;refine aw.mk (k+1) zd zd ?_;simp only[yS,A];exact ab ar ar ar
             all_goals first|rfl|exact⟨rfl,rfl⟩
           ·have hkl:k=labs.length:=by replace h4:=cq h4;omega
            have eTk:Ri.take k=Ri:=by rw[hkl, <- lR,agP]
            rw[eTk,xm lR]
            have lRm:(Ri.map encI).length=labs.length:=by rw[agG,lR]
            ((iterate 6 revert K);refine dG 38 ?_;iterate 4 intro K hK)
            refine bl (gy 16 6 rfl rfl rfl lRm) zo ?_;simp only[afS,afR];have eEi:=AB ends (i:=L.order.getD i 0) zd
            have eLi:fq ((L.rows.take i).map (iW labs))++[[AV.aB 1 (Ri.map encI) labs.length]]=fq ((L.rows.take (i+1)).map (iW labs)):=by
             rw[agO hil,agY,fq,fq,agY, <- lR, <- hRi,ae2,aeC hil];rfl
            have hLe:L.ends.length=L.rows.length:=qo.ends
            have eEn:dF (L.ends.take i)++[[AV.v (.bool (ends.getD (L.order.getD i 0) false))]]=dF (L.ends.take (i+1)):=by
             rw[<-qw.H8 i hil,agO (show i<L.ends.length by omega),dF,dF,agY,ae2,aeC (show i<L.ends.length by omega)];rfl
            have lLi:(fq ((L.rows.take i).map (iW labs))).length=i:=by rw[gS,agG,aht];omega
            have lEi:(dF (L.ends.take i)).length=i:=by rw[jI,aht];omega
            ((iterate 4 revert K);refine Pj 39 eLi lLi ?_;intro K hK K hK K hK)
            refine bE [13,16] [] za zo ?_
            ((iterate 3 revert K);refine ak (Y1 eOi U u O eEi eLE eEn lEi) ?_)
            refine aM eWi ?_;refine aw.mk (i+1) zd zd ?_;simp only[yS];exact ab ar ar ar
            all_goals first|rfl|exact⟨rfl,rfl⟩
         ·have hin:i=L.rows.length:=by replace O:=cq O;omega
          have hLe:L.ends.length=L.rows.length:=qo.ends
          have e1:L.rows.take i=L.rows:=by rw[hin,agP]
          have e2:L.ends.take i=L.ends:=by rw[hin, <- hLe,agP]
          rw[e1,e2,hin]
          have l1:(fq (L.rows.map (iW labs))).length=L.rows.length:=by rw[gS,agG]
          have l2:(dF L.ends).length=L.rows.length:=by rw[jI,hLe]
          ((iterate 3 revert K);refine dG 40 ?_;intro K hK)
          refine bl (fM (k:=1) (i:=0) (j:=1) zs rfl (ag4 _) rfl rfl rfl rfl l1) zo ?_;simp only[afS,afR];refine bl (fM (k:=1) (i:=0) (j:=2) zs rfl (ag4 _) rfl rfl rfl rfl l2) zo ?_;simp only[afS,afR]
          (revert K;refine bj ?_)
          rw[<-V];simp only[r8,bY];refine bB.ck ⟨bB.ptr (ob:=⟨139,3,false,[[.aB 1 (labs.map encS) labs.length,.aB 1 (fq (L.rows.map (iW labs))) L.rows.length,.aB 1 (dF L.ends) L.rows.length]]⟩) rfl rfl rfl (Nat.succ_ne_zero 2) ?_,bB.v _,trivial⟩;exact⟨bB.Ab (bz 0 _),bB.Ab (oL 0 _),bB.Ab (qb 0 _),trivial⟩
def DV(A:oZ)(E:Id):AV:=if fb E=0 then .ck [.vp (r8 A),.v (.int .i64 0)]else .ck [.v (.pointer none),.v (.int .i64 (fb E))]
theorem R2(x:Ex)(e:Int)(q:e≠0)(E:Id)(C:aj prog 68 [.agg (aN x)] (.ck [.v (.pointer none),.v (.int .i64 e)])):aj prog 36 [.agg (aN x),.aB 5 (E.map aR) E.length] (.ck [.v (.pointer none),.v (.int .i64 e)]):=by
 have z0:(e !=0)=true:=by simp[q]
 rw[aA]at C⊢;refine gE func36 ntmps36 results36 ?_
 (refine ae ?_;intro K hK K hK)
 (revert K;revert K;refine dA C z0 ?_)
 (refine iG.of 40 rfl ?_;simp only[go_sem])
theorem U9(x:Ex)(A:oZ)(E:Id)(C:aj prog 68 [.agg (aN x)] (.ck [.vp (r8 A),.v (.int .i64 0)]))(hE:∀e∈E,JB e)(hl:E.length<=100000):aj prog 36 [.agg (aN x),.aB 5 (E.map aR) E.length] (DV A E):=by
 have eN:(E.map aR).length=E.length:=zk
 have hw:=xq;have q:∀n,aU n (r8 A)=true:=λn=>xq n A;have U:∃R,R=fb E:=⟨_,rfl⟩;obtain⟨R,U⟩:=U;rw[DV, <- U];generalize r8 A=V at *;rw[aA]at C⊢
 have hF:(if R=0 then AV.ck [.vp V,.v (.int .i64 0)]else .ck [.v (.pointer none),.v (.int .i64 R)]).wf 0=true:=by
  split<;>simp only[AV.wf,aU,q,agA]
 generalize u:(if R=0 then AV.ck [.vp V,.v (.int .i64 0)]else .ck [.v (.pointer none),.v (.int .i64 R)])=rv at hF⊢
 (refine aj.enter func36 rfl zo zo rfl (by simp only[go_sem,aU,AV.wf,agA,afo,afu,hF,df]) (by simp only[go_sem,aU,AV.wf,bz,agA,afo,afu,hF,df]) ?_;simp only[ntmps36,results36,afa,aeq,Nat.reduceAdd,Nat.reduceSub,afU,afV,afK,afJ])
 (refine ae ?_;intro K hK K hK)
 (revert K;revert K;refine aK C ?_;intro K hK)
 refine bg (ι:=Nat) 9 (λk=>[(8,.v (.int .i64 (k:Nat))),(9,.undef)]) (λk=>E.length-k) (λk=>k<=E.length∧fb (E.drop k)=R) 0 ⟨Nat.zero_le _,U.symm⟩ ?_ ?_
 ·refine ab (bJ ?_) ar ar
  all_goals exact⟨q _,rfl⟩
 ·rintro k ⟨hk,H⟩ K hK
  rcases aes k E.length with h|h
  ·have d1:decide ((k:Int)<(E.length:Int))=true:=b0;have eG:=qt h;have ws:=ag (k:=k) zd;have C6:=LI _ (hE _ (List.getElem_mem h));rw[EK h]at H;simp only[aR]at C6
   (revert K;revert K;refine ak (nq d1 eG eN) ?_;iterate 5 intro K hK)
   refine ai.one C6 ?_
   by_cases O:nL E[k]≠0
   ·have W:(nL E[k] !=0)=true:=by simpa using O
    rw[if_pos O]at H;rw[if_neg (by rw[<-H];exact O)]at u
    ((iterate 5 revert K);refine ak W ?_)
    rw[<-u,H]
    (refine iG.of 40 rfl ?_;simp only[go_sem])
   ·have W:(nL E[k] !=0)=false:=by simpa using O
    rw[if_neg O]at H
    ((iterate 5 revert K);refine fc W ws ?_)
    refine aw.mk (k+1) ⟨h,H⟩ (show E.length-(k+1)<E.length-k by omega) ?_;refine ab (bJ ?_) ar ar
    all_goals exact q _
  ·have Y:k=E.length:=zd
   have d1:decide ((k:Int)<(E.length:Int))=false:=bi;rw[Y,List.drop_length,fb]at H;rw[if_pos H.symm]at u
   (revert K;revert K;refine ak d1 ?_)
   rw[<-u];refine iG.of 40 rfl ?_;simp only[go_sem,q]
section
variable {D:Nat->Prop} {nu:EQ} {o:AC} {w:World} {P:Program}
def aa.GP(ob:aa)(k:Nat):aa:={ob with rows:=ob.rows.take k++List.replicate (ob.rows.length-k) (List.replicate ob.z .undef)}
theorem Ij(h:RO D nu o w){id k:Nat}{ob:aa}(ho:o[id]?=some (some ob))(O:ob.fe=true)(hk:k<=ob.rows.length){xs:IR}(hl:xs.length=(ob.rows.length-k)*ob.z)(h1:∀v∈xs,v.oneCell'=true){b:Nat}(hb:cW (nu id ob.hl)=some b) :
  ∃w',(storeCells ⟨b,k*ob.z,none⟩ xs).run P w=.ok () w'∧cf nu o w nu (o.set id (some (ob.GP k))) w'∧RO D nu (o.set id (some (ob.GP k))) w':=by
 have hhl:ob.hl=ob.rows.length:=by rw[aa.hl,O,if_pos rfl]
 have hdl:(ob.GP k).rows.length=ob.rows.length:=by grind[aa.GP]
 have hh:ob.hl=(ob.GP k).hl:=by rw[hhl,aa.hl,show(ob.GP k).fe=true from O,if_pos rfl,hdl]
 rcases h.obj id ob ho with⟨e1,e2,e3⟩|⟨g,cur,A⟩|⟨g,es,cl,hmp⟩
 rotate_left 2
 ·rw[hmp.fe]at O;cases O
 ·rw[hhl,e2,aeq,e3]at hb;cases hb
 ·have hbg:b=g:=by have:=A.qk;grind
  subst hbg;obtain⟨cap,c1,c2,c3,c4⟩:=A.vec O;have hm1:ob.rows.length*ob.z<=cap*ob.z:=aey _ c2
  have hm2:k*ob.z+(ob.rows.length-k)*ob.z=ob.rows.length*ob.z:=by rw[<-Nat.add_mul];grind
  have hst:=run_storeCells_at P b (k*ob.z) ob.T xs 0 cur w A.e9 zd h1
  have hcs:(cur.toList.take (k*ob.z+0)++xs++cur.toList.drop (k*ob.z+0+xs.length)).toArray.size=cur.size:=ahy
  generalize hcu:(cur.toList.take (k*ob.z+0)++xs++cur.toList.drop (k*ob.z+0+xs.length)).toArray=cu at *;have W:∀q,q≠b->(w.setRow b cu).heap[q]?=w.heap[q]? :=λq hq=>setRow_other w b q _ hq
  have hsz:(w.setRow b cu).heap.size=w.heap.size:=by simp_all
  have hm:=ko (nu:=nu) (o:=o) (w:=w) (w':=w.setRow b cu) (ob':=ob.GP k) ho hh.symm A.b7 rfl rfl rfl hsz W
  have hin:∀(i j:Nat)x,i<ob.rows.length->j<ob.z->cu[i*ob.z+j]?=some x->(i<k∧cur[i*ob.z+j]?=some x)∨(k<=i∧x∈xs):=λi j x hi hj hx=>by
   have hi2:(i+1)*ob.z<=ob.rows.length*ob.z:=aey _ hi;rw[Nat.add_mul,Nat.one_mul]at hi2
   have hlt:(cur.toList.take (k*ob.z+0)).length=k*ob.z:=ahy
   rw[<-hcu,List.getElem?_toArray,List.append_assoc]at hx
   rcases aes i k with q|q
   ·have hi3:(i+1)*ob.z<=k*ob.z:=aey _ q
    grind
   ·have hi3:k*ob.z<=i*ob.z:=aey _ q
    grind
  have u:∀(i:Nat)row,(ob.GP k).rows[i]?=some row->i<ob.rows.length∧row.length=ob.z∧(i<k->ob.rows[i]?=some row)∧(k<=i->∀c∈row,c=.undef):=λi row hi=>by
   have hil:i<ob.rows.length:=by grind
   have htl:(ob.rows.take k).length=k:=ahy
   simp only[aa.GP]at hi
   rcases aes i k with q|q
   ·rw[List.getElem?_append_left zd,List.getElem?_take_of_lt q]at hi;exact⟨hil,A.row i row hi,λ_=>hi,λh=>zd⟩
   grind
  have Y:∀{i:Nat}{row:C5}{j:Nat}{c:AV},(ob.GP k).rows[i]?=some row->row[j]?=some c->j<ob.z:=λh1 h2=>by
   grind
  refine⟨_,hst,hm,sb h ho hh.symm A.b7 hm W (cur:=cu) ⟨?_,A.oR,λe=>?_,λ_=>⟨cap,by grind,zd,c3,by rw[hcs];exact c4⟩,A.z,λi row hi=>(u i row hi).2.1,λi j row c x V H q3=>?_,λi j row c x V H q3=>?_⟩⟩
  ·exact setRow_heap w b cur _ ob.T (0,0) A.e9
  ·rw[show(ob.GP k).fe=true from O]at e;cases e
  ·obtain⟨r1,r2,r3,r4⟩:=u i row V
   rcases hin i j x r1 (Y V H) q3 with⟨U,a2⟩|⟨U,a2⟩
   ·exact(A.cell i j row c x (r3 U) H a2).mono hm (λ_ _ h=>h)
   ·rw[r4 U c (List.mem_of_getElem? H)];exact .undef _
  ·obtain⟨r1,r2,r3,r4⟩:=u i row V
   rcases hin i j x r1 (Y V H) q3 with⟨U,a2⟩|⟨U,a2⟩
   ·exact A.one i j row c x (r3 U) H a2
   grind
def NN(P:Program)(o1 o2:Oper)(s:AS)(o':AC):Prop:=∀(f:Fr)(D:Nat->Prop)(nu:EQ)(a:Act)(w:World),RS f D nu s a w->∃v1 v2 w',(execOp a.eval o1).run P w=.ok (.value v1) w∧(execOp (a.put o1.dst v1).eval o2).run P w=.ok (.value v2) w'∧cf nu s.o w nu o' w'∧RO D nu o' w'
theorem UK{all:GE}{o1 q:Oper}{s:AS}{Q:AS->Prop}(o':AC)(h1:o1.guard=none)(h2:q.guard=none)(h:NN P o1 q s o')(k:Q ((s.put o1.dst .undef s.o).put q.dst .undef o')):ph P all [o1,q] s Q:=λf m rest R V a w D nu hcalm U u W=>by
 have H:Region.wanted o1 (yielded all.toArray a.tmps)=true:=by grind[Region.wanted]
 simp only[afK,afJ,wpListIn];obtain⟨v1,v2,w',e1,Y,m1,m2⟩:=h f D nu a w u
 have A:Region.wanted q (yielded all.toArray (a.put o1.dst v1).tmps)=true:=by grind[Region.wanted]
 rw[if_pos H];refine⟨λf _=>trivial,?_⟩;rw[Oper.semAt_eq _ _ o1 (hcalm o1 zk),e1];show wpListIn (WF f.r) 9 P all.toArray R (q::rest) (a.put o1.dst v1) w;simp only[wpListIn];rw[if_pos A];refine⟨λf _=>trivial,?_⟩;rw[Oper.semAt_eq _ _ q (hcalm q zk),Y];have O:=u.put (.refl nu s.o w) u.ro (.undef v1) o1.dst;exact W D ((s.put o1.dst .undef s.o).put q.dst .undef o') _ w' nu (m.own U u.ro m1 m2) (O.put m1 m2 (.undef v2) q.dst) k
theorem SS{n0 id:Nat}{s:AS}{l:GE}{Q:bd->AS->Prop}(n:Nat){oa ob:Oper}(V:l[n]?=some oa)(U:l[n+1]?=some ob)(q:dP l.toArray=true)(O:oa.guard=none)(H:ob.guard=none)(h:jU P l (l.take n) s (λs1=>∃o',NN P oa ob s1 o'∧jU P l (l.drop (n+2)) ((s1.put oa.dst .undef s1.o).put ob.dst .undef o') (Q .normal))):cD P n0 (.region id l.toArray false) s Q:=by
 refine JX q ?_;obtain⟨Y,rfl⟩:=aeu.1 V;obtain⟨W,rfl⟩:=aeu.1 U
 have e:l.take n++([l[n],l[n+1]]++l.drop (n+2))=l:=by
  simp_all
 have key:ph P l (l.take n++([l[n],l[n+1]]++l.drop (n+2))) s (Q .normal):=DG ((tY h).mono (λs1⟨o',A,u⟩=>DG (UK o' O H A (tY u))))
 grind
theorem OD{oa ob:Oper}{s:AS}{T:TypeId}{x h:Operand}{id len t:Nat}{b:aa}{kk:IntKind}{k:Nat}{zv:Value}{e:TypeId}{c:Call}(hop:oa.op=.slice T x (some h) none none)(hd:oa.dst=some t)(H:ob.op=.call c)(hc:c.callee=.builtin .clear)(hca:c.args = #[.tmp t])(hct:c.argTypes = #[T])(hx:s.ev x=.vec id len)(hh:s.ev h=.v (.int kk k))(ho:s.o[id]?=some (some b))(q:b.fe=true)(hl:b.rows.length=len)(W:P.underlying T=some (.slice e))(hz:Rr P T=some b.z)(O:∀w,(zeroValue e).run P w=.ok zv w)(hzc:zv.cells.size=b.z)(hz1:zv.cells.all (λv=>v.oneCell')=true)(hk:k<len)(ht:t<s.t.length) :
  NN P oa ob s (s.o.set id (some (b.GP k))):=λf D nu a w A=>by
 subst hl
 have hhl:b.hl=b.rows.length:=by rw[aa.hl,q,if_pos rfl]
 rcases A.ro.obj id b ho with⟨e1,e2,e3⟩|⟨g,cur,hr⟩|⟨g,es,cl,hmp⟩
 ·grind
 rotate_left 1
 ·rw[hmp.fe]at q;cases q
 obtain⟨cap,c1,c2,c3,c4⟩:=hr.vec q;have ex:=A.ev x;rw[hx]at ex
 have ex':a.eval x=.slice (some ⟨g,0,none⟩) b.rows.length cap:=by
  rw[<-c1];generalize a.eval x=y at ex;cases ex;rfl
 have eh:a.eval h=.int kk k:=(A.ev h).RF hh;obtain⟨e',u,hsz⟩:=nh hz;rw[W]at u;cases u;have hbd:=dr (P:=P) (w:=w) (b:=true) (len:=b.rows.length) (cap:=cap) (l:=k) (h:=b.rows.length) (m:=cap) (lo:=some (.int kk k)) (hi:=none) (mx:=none) (.inr ⟨kk,rfl⟩) (.inl ⟨rfl,rfl,rfl⟩) (.inl ⟨rfl,rfl⟩) zd c2 (Nat.le_refl _)
 have U:(Builtin.zeroCells zv.cells (b.rows.length-k)).toList.length=(b.rows.length-k)*b.z:=by grind[Builtin.zeroCells]
 obtain⟨w',q1,q2,q3⟩:=Ij (P:=P) A.ro ho q (Nat.le_of_lt hk) U (λv V=>by
  simp only[Builtin.zeroCells,Array.mem_toList_iff,Array.mem_map,Array.mem_range]at V
  grind[Nat.mod_lt,Array.all_eq_true]) (b:=g) (by rw[hhl,c1];rfl)
 refine⟨.slice (some ⟨g,k*b.z,none⟩) (b.rows.length-k) (cap-k),.tuple #[],w',?_,?_,q2,q3⟩
 ·simp only[execOp,hop];simp only[Sem.run_bind,aeO,ahi,ex',eh]
  have hck:cap≠k:=zd
  by_cases h0:k*b.z=0<;>simp[Instr.sliceAt,Instr.slice,run_underlying W,hbd,run_sizeOf hsz,Addr.add,hck,h0]
 ·have Y:t<a.tmps.size:=by rw[<-A.tm.len];exact ht
  have ev:(a.put oa.dst (.slice (some ⟨g,k*b.z,none⟩) (b.rows.length-k) (cap-k))).eval (.tmp t)=.slice (some ⟨g,k*b.z,none⟩) (b.rows.length-k) (cap-k):=by
   rw[hd];simp[Act.put,Act.eval,Y]
  obtain⟨n,hn⟩:∃n,b.rows.length-k=n+1:=⟨b.rows.length-k-1,zd⟩;rw[hn]at ev q1;simp[execOp,H,resolve,hc,hca,hct,invoke,builtin,ev,hn,Builtin.clear_,run_underlying W,O,q1]
end
def cY(f:ByteArray)(L:PL):PL:=L.filter (λp=>decide (p.1.1=f))
theorem vS(f:ByteArray)(p:K2×Int):aj prog 40 [.agg (aJ p),.vp [.v (.string f)]] (.v (.bool (!decide (p.1.1=f)))):=by
 have e:(p.1.1.toList !=f.toList) = !decide (p.1.1=f):=by
  by_cases h:p.1.1=f
  ·rw[h];simp
  ·have:p.1.1.toList≠f.toList:=λq=>h (toList_inj.1 (by rw[q];simp))
   simp[h,this]
 simp only[aJ];rw[<-e];refine gE func40 ntmps40 results40 ?_;refine ae ?_
 rfl
def cj(f:ByteArray):PL->Nat
 | []=>0
 |p::l=>if p.1.1=f then cj f l+1 else 0
theorem uQ{f:ByteArray}:∀(L:PL),cj f L<=L.length
 | []=>Nat.le_refl _
 |p::l=>by have:=uQ (f:=f) l;rw[cj,afa];split<;>omega
theorem uS{f:ByteArray}:∀(L:PL)(k:Nat)(h:k<L.length),k<cj f L->L[k].1.1=f
 |p::l,0,_,q=>by rw[cj]at q;split at q;assumption;omega
 |p::l,k+1,h,q=>by
  rw[cj]at q
  split at q
  ·exact uS l k (by simpa using h) zd
  ·omega
theorem AJ{f:ByteArray}:∀(L:PL)(h:cj f L<L.length),L[cj f L].1.1≠f
 |p::l,h=>by
  by_cases q:p.1.1=f
  ·have e:cj f (p::l)=cj f l+1:=by rw[cj,if_pos q]
   simp only[e,List.getElem_cons_succ];exact AJ l (by rw[e,afa]at h;omega)
  ·have e:cj f (p::l)=0:=by rw[cj,if_neg q]
   simp only[e,List.getElem_cons_zero];exact q
theorem Kd(f:ByteArray)(L:PL)(hl:L.length<=1000000):aj prog 71 [.aB 3 (L.map aJ) L.length,.fn 40 [] [.vp [.v (.string f)]]] (.v (.int .i64 (if cj f L<L.length then(cj f L:Nat)else -1))):=by
 have eN:(L.map aJ).length=L.length:=zk
 have hle:=uQ (f:=f) L;refine gE func71 ntmps71 results71 ?_
 (refine ae ?_;intro K hK)
 refine bg (ι:=Nat) 9 (λk=>[(5,.undef),(8,.v (.int .i64 (k:Nat)))]) (λk=>L.length-k) (λk=>k<=cj f L) 0 (Nat.zero_le _) ?_ ?_
 ·refine ab (bJ ?_) ar ar
  all_goals rfl
 ·intro k H K hK
  rcases aes k L.length with h|h
  ·have d1:decide ((k:Int)<(L.length:Int))=true:=b0;have eG:=qu h;have ws:=ag (k:=k) zd;have C:=vS f L[k];simp only[aJ]at C
   (revert K;revert K;refine ak (nq d1 eG eN) ?_;iterate 5 intro K hK)
   refine ai.one C ?_
   by_cases A:L[k].1.1=f
   ·have e:(!decide (L[k].1.1=f))=false:=by simp[A]
    have u:k<cj f L:=by
     rcases ahv H with q|q
     ·exact q
     ·subst q;exact absurd A (AJ L h)
    ((iterate 5 revert K);refine fc e ws ?_)
    exact aw.mk (k+1) u zd (by exact ab ar ar ar)
   ·have e:(!decide (L[k].1.1=f))=true:=by simp[A]
    have u:k=cj f L:=by
     rcases ahv H with q|q
     ·exact absurd (uS L k h q) A
     ·exact q
    ((iterate 5 revert K);refine ak e ?_)
    rw[if_pos zd,u]
  ·have d1:decide ((k:Int)<(L.length:Int))=false:=bi
   (revert K;revert K;refine ak d1 ?_)
   rw[if_neg zd]
theorem yl{f:ByteArray}:∀(L:PL),cj f L<L.length->L.take (cj f L)=cY f (L.take (cj f L+1))
 |p::l,h=>by
  by_cases q:p.1.1=f
  ·have e:cj f (p::l)=cj f l+1:=by rw[cj,if_pos q]
   have u:cj f l<l.length:=by rw[e,afa]at h;omega
   have ih:=yl l u;rw[e,List.take_succ_cons,List.take_succ_cons,cY,List.filter_cons_of_pos (by simp[q]),ih];rfl
  ·have e:cj f (p::l)=0:=by rw[cj,if_neg q]
   simp[e,cY,q]
theorem L5{f:ByteArray}(L:PL)(h:cj f L=L.length):cY f L=L:=
 List.filter_eq_self.2 λp q=>by
  obtain⟨k,u,rfl⟩:=List.mem_iff_getElem.1 q;exact decide_eq_true (uS L k u zd)
theorem OK(f:ByteArray)(L:PL)(hl:L.length<=1000000)(h:cj f L=L.length):bR prog 41 [.vec 0 L.length,.fn 40 [] [.ptr 1 0 1 0 0]] [some ⟨37,3,true,L.map aJ⟩,some ⟨9,1,false,[[.v (.string f)]]⟩] (.vec 0 L.length) [some ⟨37,3,true,L.map aJ⟩,none]:=by
 have I:=Kd f L hl;rw[h,if_neg (Nat.lt_irrefl _)]at I;refine gF func41 ntmps41 results41 ?_
 (refine ae ?_;intro K hK K hK)
 refine ai.Ct I 8 rfl (by simp only[go_sem,Nat.reduceLT,Nat.reduceLeDiff,Nat.reduceEqDiff,agB,agC,and_self]) rfl ?_
 (revert K;revert K;refine ae ?_)
 exact⟨ek,ek,ek⟩
theorem OL(f:ByteArray)(L:PL)(hl:L.length<=1000000)(h:cj f L<L.length):bR prog 41 [.vec 0 L.length,.fn 40 [] [.ptr 1 0 1 0 0]] [some ⟨37,3,true,L.map aJ⟩,some ⟨9,1,false,[[.v (.string f)]]⟩] (.vec 2 (cY f L).length) [none,none,some ⟨37,3,true,(cY f L).map aJ⟩]:=by
 have I:=Kd f L hl;rw[if_pos h]at I
 have e0:(((cj f L:Nat):Int) == -1)=false:=zk
 have W:=ag (k:=cj f L) zd;refine gF func41 ntmps41 results41 ?_
 (refine ae ?_;intro K hK K hK)
 refine ai.Ct I 8 rfl (by simp only[go_sem,Nat.reduceLT,Nat.reduceLeDiff,Nat.reduceEqDiff,agB,agC,and_self]) rfl ?_
 repeat(first|(with_reducible first|refine bG.up ?_|refineλ(K:AK)hK=>?_|(refine hK _ ?_;clear hK K))|simp only[go_sem,e0,W]|with_reducible refine wA ?_|clear hK K)
 refine aO (ι:=PL×Nat×Nat) 16 (λz=>[(5,.v (.int .i64 (z.2.1:Nat))),(6,.v (.int .i64 (z.2.2:Nat))),(7,.undef)]) (λz=>[some ⟨37,3,true,z.1.map aJ⟩,some ⟨9,1,false,[[.v (.string f)]]⟩]) (λz=>L.length-z.2.2) (λz=>z.1.length=L.length∧z.2.1<z.2.2∧z.2.2<=L.length∧z.1.take z.2.1=cY f (L.take z.2.2)∧z.1.drop z.2.2=L.drop z.2.2) (L,cj f L,cj f L+1) ⟨rfl,Nat.lt_succ_self _,h,yl L h,rfl⟩ ?_ ?_
 ·exact ab ar ar ar
  all_goals trace_state
 ·rintro⟨M,i,j⟩ ⟨A,hij,hj,hi,O⟩ K hK;simp only at A hij hj hi O⊢
  have eN:(M.map aJ).length=L.length:=by simp[A]
  rcases aes j L.length with q|q
  ·have d1:decide ((j:Int)<(L.length:Int))=true:=b0
   have hMj:M[j]' zd =L[j]:=by
    have:=congrArg (λl=>l[0]?) O
    simp only[List.getElem?_drop,Nat.add_zero]at this;rw[aeC zd,aeC q]at this;exact Option.some.inj this
   have eG:=qu (l:=M) (i:=j) zd;rw[hMj]at eG;have eGi:=qu (l:=M) (i:=i) zd;have V:=ag (k:=i) zd;have u:=ag (k:=j) zd;have C:=vS f L[j];simp only[aJ]at C
   have U:cY f (L.take (j+1))=cY f (L.take j)++if L[j].1.1=f then [L[j]]else []:=by
    rw[cY,cY,agO q,List.filter_append]
    by_cases hc:L[j].1.1=f<;>simp[hc]
   (revert K;revert K;refine ak (nq d1 eG eN) ?_;iterate 5 intro K hK)
   refine ai.Ct C 8 rfl (by simp only[go_sem,Nat.reduceLT,Nat.reduceLeDiff,Nat.reduceEqDiff,agB,agC,and_self]) rfl ?_
   by_cases H:L[j].1.1=f
   ·have e:(!decide (L[j].1.1=f))=false:=by simp[H]
    rw[if_pos H]at U
    ((iterate 5 revert K);refine ak (pG e eG eGi eN) ?_)
    refine fc V u ?_
    refine aw.mk (M.set i L[j],i+1,j+1) ⟨by simp[A],show i+1<j+1 by omega,q,?_,?_⟩ (show L.length-(j+1)<L.length-j by omega) ?_
    ·show(M.set i L[j]).take (i+1)=_;rw[U, <- hi,agO ahy,List.take_set_of_le (Nat.le_refl _),List.getElem_set_self]
    ·show(M.set i L[j]).drop (j+1)=_;rw[List.drop_set_of_lt zd]
     have:=congrArg List.tail O
     simpa using this
    ·have eS:(M.set i L[j]).map aJ=(M.map aJ).set i [.v (.string L[j].1.1),.v (.string L[j].1.2),.v (.int .i64 L[j].2)]:=by rw[List.map_set];rfl
     have eW:=λn=>bt n (M.set i L[j]);rw[eS]at eW⊢;refine ab ar (bJ ?_) ar
     all_goals first|exact eW _|exact⟨rfl,eW _⟩
   ·have e:(!decide (L[j].1.1=f))=true:=by simp[H]
    rw[if_neg H,agy]at U
    ((iterate 5 revert K);refine fc e u ?_)
    refine aw.mk (M,i,j+1) ⟨A,show i<j+1 by omega,q,by rw[U];exact hi,?_⟩ (show L.length-(j+1)<L.length-j by omega) ?_
    ·have:=congrArg List.tail O
     simpa using this
    ·exact ab ar ar ar
     all_goals trace_state
  ·have Y:j=L.length:=zd
   have d1:decide ((j:Int)<(L.length:Int))=false:=bi;rw[Y,List.take_length]at hi
   (revert K;revert K;refine jf 11 d1 ?_;intro K hK)
   have tz:∀w,(zeroValue 37).run prog w=.ok (.agg #[.string ⟨#[]⟩,.string ⟨#[]⟩,.int .i64 0]) w:=λw=>zo
   refine SS 2 rfl rfl zo rfl rfl ?_
   (revert K;refine ae ?_;intro K hK)
   refine⟨_,OD (zv:= .agg #[.string ⟨#[]⟩,.string ⟨#[]⟩,.int .i64 0]) rfl rfl rfl rfl rfl rfl rfl rfl rfl rfl eN zo zo tz rfl zo zd zk,?_⟩;simp only[List.set_cons_zero]
   have eD:((⟨37,3,true,M.map aJ⟩:aa).GP i).rows.length=L.length:=by simp[aa.GP,A];omega
   have eT:((⟨37,3,true,M.map aJ⟩:aa).GP i).rows.take i=(cY f L).map aJ:=by
    have:((M.map aJ).take i).length=i:=ahy
    show((M.map aJ).take i++_).take i=_;rw[List.take_append_of_le_length zd,List.take_of_length_le zd, <- List.map_take,hi]
   have eF:(cY f L).length=i:=by rw[<-hi];simp;omega
   (revert K;refine dG 12 ?_;intro K hK)
   refine JW 2 rfl zo rfl ?_
   (revert K;refine ae ?_;intro K hK)
   refine⟨_,_,OI rfl rfl rfl rfl rfl eD zo zd,?_⟩;simp only[List.drop_succ_cons,List.drop_zero,eT]
   (revert K;refine ae ?_)
   rw[eF];simp only[aa.GP];exact⟨ek,ek,ek⟩
   all_goals exact bt _ _
theorem Tb(f:ByteArray)(L:PL)(hl:L.length<=1000000):bR prog 41 [.vec 0 L.length,.fn 40 [] [.ptr 1 0 1 0 0]] [some ⟨37,3,true,L.map aJ⟩,some ⟨9,1,false,[[.v (.string f)]]⟩] (.vec 2 (cY f L).length) [none,none,some ⟨37,3,true,(cY f L).map aJ⟩]:=by
 rcases ahv (uQ (f:=f) L)with h|h
 ·exact OL f L hl h
 ·rw[L5 L h];exact(OK f L hl h).mv (ob:=⟨37,3,true,L.map aJ⟩) rfl rfl zk
noncomputable def E3(x:Ex)(E:Id)(f:ByteArray):AV:=if iQ x E=0 then .ck [.aB 3 ((cY f (gY x E)).map aJ) (cY f (gY x E)).length,.v (.int .i64 0)]else .ck [.v (.slice none 0 0),.v (.int .i64 (iQ x E))]
theorem Pq(g:AV)(q:g.wf 0=true):aj prog 71 [.v (.slice none 0 0),g] (.v (.int .i64 (-1))):=by
 (refine aj.enter func71 rfl zo zo rfl (by simp only[go_sem,aU,AV.wf,agA,afo,afu,q]) (by simp only[go_sem,aU,AV.wf,bz,agA,afo,afu,q]) ?_;simp only[ntmps71,results71,afa,aeq,Nat.reduceAdd,Nat.reduceSub,afU,afV,afK,afJ])
 (refine ae ?_;intro K hK)
 refine bg (ι:=Unit) 9 (λ_=>[]) (λ_=>0) (λ_=>True) () trivial ?_ ?_
 ·refine ab (bJ ?_) ar ar
  all_goals exact .inr q
 ·intro _ _ K hK
  (revert K;revert K;exact sY)
theorem OJ(g:AV)(q:g.wf 0=true):aj prog 41 [.v (.slice none 0 0),g] (.v (.slice none 0 0)):=by
 have I:=Pq g q
 (refine aj.enter func41 rfl zo zo rfl (by simp only[go_sem,aU,AV.wf,agA,afo,afu,q]) (by simp only[go_sem,aU,AV.wf,bz,agA,afo,afu,q]) ?_;simp only[ntmps41,results41,afa,aeq,Nat.reduceAdd,Nat.reduceSub,afU,afV,afK,afJ])
 (refine ae ?_;intro K hK K hK)
 (revert K;revert K;exact lE I)
theorem VU(x:Ex)(E:Id)(f:ByteArray)(U:x.ok)(u:∀e∈E,xr e)(hl:E.length<=31)(V:∀A,fZ x (ct x)=.inl A->AOk A):aj prog 13 [.agg (aN x),.aB 5 (E.map aR) E.length,.v (.string f)] (E3 x E f):=by
 have hL:=Bd x E hl V
 have H:aU 0 [.agg (aN x),.aB 5 (E.map aR) E.length,.v (.string f)]=true:=by rw[aA];simp only[aU,AV.wf,df,bF,agA]
 unfold E3
 by_cases O:iQ x E=0
 ·obtain⟨A,Y,W,hp⟩:=Uo O;have ok:=V A Y;have NW:=OR x U;rw[IN,Y]at NW;have OV:=Qi x A E NW u zd;rw[tF,if_pos W]at OV;have PE:=Ec x A E U ok OV W hl;rw[<-hp]at PE;rw[if_pos O];generalize gY x E=L at *;have DE:=Tb f L zd
  have eF:(AV.ck [.aB 3 ((cY f L).map aJ) (cY f L).length,.v (.int .i64 0)]).wf 0=true:=by simp only[AV.wf,aU,bt,agA]
  have eE:aU 0 [.agg (aN x),.aB 5 (E.map aR) E.length]=true:=by rw[aA];simp only[aU,AV.wf,df,bF,agA]
  rw[aA]at PE H eE⊢
  (refine aj.iA func13 rfl zo zo rfl H eF ?_;simp only[ntmps13,results13,afa,aeq,Nat.reduceAdd,Nat.reduceSub,afU,afV,afK,afJ])
  (refine ae ?_;intro K hK K hK)
  refine ai.fr [] PE List.nodup_nil rfl ?_ eE (λk ob h=>by simp at h) ?_
  ·exact(fJ _ _ eE).symm
  simp only[fj,aga,agE,aeO,ahi,aa.ba,bn _ _ (bt 0 _),afJ,agy]
  (revert K;revert K;refine ae ?_;intro K hK K hK)
  refine ai.fr [8,1] DE zk ?_ ?_ ?_ ?_ ?_
  ·simp only[aga,agE,List.getElem?_cons_zero,List.getElem?_cons_succ,aeO,aa.ba,bn _ _ (bt 0 _),cm,bV,AV.ba]
  ·rfl
  ·rfl
  ·intro k ob q
   match k,q with
   |0,q=>cases q;exact bt _ _
   |1,q=>cases q;rfl
   |k+2,q=>simp at q
  simp only[fj,List.set_cons_zero,List.set_cons_succ,aga,agE,aeO,ahi,aa.ba,bn _ _ (bt 0 _),afa,aeq,Nat.reduceAdd,afK,afJ,agy]
  (revert K;revert K;refine ae ?_)
  exact bB.ck ⟨bB.sg (ob:=⟨37,3,true,(cY f L).map aJ⟩) rfl rfl zk (bt _ _),bB.v _,trivial⟩
 ·have PS:=BY x E U u hl V;rw[tH,if_neg O]at PS;rw[if_neg O];generalize iQ x E=c at *;have DN:=OJ (.fn 40 [] [.vp [.v (.string f)]]) (by simp only[AV.wf,aU,agA]);rw[aA]at PS⊢;refine gE func13 ntmps13 results13 ?_
  (refine ae ?_;intro K hK K hK)
  (revert K;revert K;refine aK PS ?_;intro K hK K hK)
  refine ai.Ct DN 8 rfl (by simp only[go_sem,Nat.reduceLT,Nat.reduceLeDiff,Nat.reduceEqDiff,agB,agC,and_self]) rfl ?_
  (revert K;revert K;refine ae ?_)
  (refine iG.of 40 rfl ?_;simp only[go_sem])
section
variable {P:Program}
theorem Hu{x y:Code}{s:AS}{Q:bd->AS->Prop}(t0:C5)(o0:AC)(ys:kz)(Y:bX x=true)(W:bX y=true)(A:∀(k:Nat)ob,o0[k]?=some (some ob)->bD o0.length ob.rows=true)(k:cD P 0 y ⟨t0,o0,ys⟩ Q)
  (h:cD P 0 x s (λe s'=>e=.normal∧s'.y=ys∧∃ids,ids.Nodup∧ids.map (λi=>s'.o[i]?)=o0.map (λx=>some (x.map (aa.ba (sig ids s'.o.length))))∧rl (sig ids s'.o.length) ids.length s'.t t0)):cD P 0 (.seq x y) s Q:= .inr (λf m D nu a w u hn hm hs q R O hR=>by
 refine wpIn_seq (gO q (f:=f) m u hn x Y s a w D nu f.Z _ _ (λa w h=>O a w h) hm hs h ?_);rintro e D' Z' s' a' w' nu' h1 h2 ⟨rfl,rfl,ids,V,H,U⟩
 have hl:o0.length=ids.length:=by have:=congrArg List.length H;simpa using this.symm
 exact xJ ids t0 o0 V H (by rw[<-hl];exact A) U W k (f.wz Z') m D' nu' a' w' u hn h1 h2 q R O hR)
end
section
variable (st:Nat->ByteArray->Option Nat) (tk:Nat->Bool) (em:Bool) (E:Id)
def wJ(dl:ByteArray->NL)(i:Nat):PL:=mg (((aI E).take i).flatMap (λv=>fB tk em (dl v.1.1) v)) []
def tM(root:ByteArray)(l:NL)(b:PL)(k:Nat):PL:=mg ((l.take k).filterMap (XL tk root)) b
end
section
variable {st:Nat->ByteArray->Option Nat} {tk:Nat->Bool} {em:Bool} {E:Id} {n:Nat}
theorem vz{k:Nat}(u:k<(aI E).length):(aI E)[k]=(((aI E)[k].1.1,(aI E)[k].1.1),(aI E)[k].2):=by
 obtain⟨e,_,q|q,_⟩:=GB (E:=E) (k:=(aI E)[k].1) (τ:=(aI E)[k].2) (List.getElem_mem u)
 ·refine Prod.ext ?_ rfl;simp only[q]
 ·refine Prod.ext ?_ rfl;simp only[q]
theorem Gz{i j:Nat}(u:j<(aI E).length)(q:i<j):(aI E)[i].1.1≠(aI E)[j].1.1:=λh=>by
 have A:=List.pairwise_iff_getElem.1 (Jq E) i j zd u q;rw[congrArg Prod.fst (vz (show i<(aI E).length by omega)),congrArg Prod.fst (vz u),h]at A;exact eo _ A
theorem MX{dl:ByteArray->NL}{l:NL}{i:Nat}(h:i<(aI E).length):wJ tk em E (λr=>if r=(aI E)[i].1.1 then l else dl r) (i+1)=tM tk (aI E)[i].1.1 l (if em then fH (wJ tk em E dl i) (((aI E)[i].1.1,(aI E)[i].1.1),(aI E)[i].2)else wJ tk em E dl i) l.length:=by
 have H:((aI E).take i).flatMap (λv=>fB tk em (if v.1.1=(aI E)[i].1.1 then l else dl v.1.1) v)=((aI E).take i).flatMap (λv=>fB tk em (dl v.1.1) v):=by
  rw[List.flatMap_def,List.flatMap_def];refine congrArg List.flatten (List.map_congr_left λv u=>?_);obtain⟨j,A,rfl⟩:=List.mem_iff_getElem.1 u
  have q:j<i:=by simp at A;omega
  rw[List.getElem_take,if_neg (Gz h q)]
 rw[wJ,agO h,List.flatMap_append,mT,H,tM,agP];simp only[List.flatMap_cons,List.flatMap_nil,agy,fB,if_true];rw[mT];cases em<;>rfl
theorem I0{root:ByteArray}{l:NL}{b:PL}{k:Nat}(h:k<l.length):tM tk root l b (k+1)=if tk l[k].1.2 then fH (tM tk root l b k) ((root,l[k].1.1),l[k].2)else tM tk root l b k:=by
 rw[tM,agO h,List.filterMap_append,mT];simp only[List.filterMap_cons,List.filterMap_nil,XL];cases tk l[k].1.2<;>rfl
theorem OM{l:NL}{root:ByteArray}(q:∀s l t,st s l=some t->t<n)(F:rh st E root l):l.length<=E.length*n:=by
 have h:=Kq F.nd (m:=jB n E) (λx O=>by
  obtain⟨p,V,rfl⟩:=List.mem_map.1 O;have U:=F.jw p V
  have key:∀{τ v s},DZ st E τ root v s->(v,s)∈jB n E:=λh=>by
   cases h with
   |one e s H A W u=>exact j6 q e H 0 _ u
   |more e s t H A W u=>exact j6 q e A s _ u
  exact key U)
 rw[qm,List.length_map]at h;exact h
theorem QL{dl:ByteArray->NL}(q:∀s l t,st s l=some t->t<n)(u:∀root,rh st E root (dl root))(hl:E.length<=31)(hn:n<=32)(i:Nat):(wJ tk em E dl i).length<=100000:=by
 have U:=qB (((aI E).take i).flatMap (λv=>fB tk em (dl v.1.1) v)) [];have W:E.length*n<=31*32:=Nat.mul_le_mul hl hn
 have O:∀l:PL,(l.flatMap (λv=>fB tk em (dl v.1.1) v)).length<=l.length*993:=by
  intro l
  induction l with
  |nil=>simp
  |cons a l ih=>
   have H:=OM q (u a.1.1)
   have A:(fB tk em (dl a.1.1) a).length<=1+(dl a.1.1).length:=by
    rw[fB,aew]
    have:=ahw (λp:Nd×Int=>if tk p.1.2 then some ((a.1.1,p.1.1),p.2)else none) (dl a.1.1)
    cases em<;>simp<;>omega
   rw[List.flatMap_cons,aew,afa];omega
 have H:=O ((aI E).take i)
 have A:(aI E).length<=62:=by
  have:=lW E E.length (Nat.le_refl _)
  rw[agP]at this;rw[aI,(cL _).length_eq];omega
 have V:((aI E).take i).length<=62:=by rw[List.length_take];omega
 simp only[aeq]at U;rw[wJ];omega
theorem MW{root:ByteArray}{l:NL}{b:PL}{k:Nat}:(tM tk root l b k).length<=b.length+l.length:=by
 have A:=qB ((l.take k).filterMap (XL tk root)) b;have u:=ahw (XL tk root) (l.take k)
 have q:(l.take k).length<=l.length:=ahy
 rw[tM];omega
theorem QK{dl:ByteArray->NL}(q:∀s l t,st s l=some t->t<n)(A:∀e∈E,e.time<=Ar)(u:∀root,rh st E root (dl root)):wJ tk em E dl (aI E).length=pT st tk em n E:=by
 rw[wJ,agP,FY];exact Ni (vZ u) (IV q A)
end
theorem Na{V:C5}(x:Ex)(A:oZ)(ok:AOk A)(E:Id)(W:aj prog 36 [.agg (aN x),.aB 5 (E.map aR) E.length] (.ck [.vp V,.v (.int .i64 0)]))(C:∀(s:Int)l,aj prog 70 [.vp V,.v (.int .i64 s),.v (.string l)] (stepT (jt A s l)))(TK:∀s:Int,aj prog 37 [.vp V,.v (.int .i64 s)] (.v (.bool (bM A s))))(wV:∀m,aU m V=true)(he:fb E=0)(hl:E.length<=31) :
  aj prog 12 [.agg (aN x),.aB 5 (E.map aR) E.length] (.ck [.aB 3 ((pT (ic A) (λs=>bM A s) (bM A 0) A.rows.length E).map aJ) (pT (ic A) (λs=>bM A s) (bM A 0) A.rows.length E).length,.v (.int .i64 0)]):=by
 have U:=Jg ok;have hb:=xZ he;have RV:=KJ E zd
 have hN:(aI E).length<=62:=by
  have:=lW E E.length (Nat.le_refl _)
  rw[agP]at this;rw[aI,(cL _).length_eq];omega
 have RG:=λroot=>M3 C wV E zd (by have:=ok.max;omega) U root;have hR:∀{dl:ByteArray->NL},(∀root,rh (ic A) E root (dl root))->wJ (λs=>bM A s) (bM A 0) E dl (aI E).length=pT (ic A) (λs=>bM A s) (bM A 0) A.rows.length E:=λhd=>QK U hb hd;have hL:∀{dl:ByteArray->NL}i,(∀root,rh (ic A) E root (dl root))->(wJ (λs=>bM A s) (bM A 0) E dl i).length<=100000:=λi hd=>QL U hd hl ok.max i;generalize pT (ic A) (λs=>bM A s) (bM A 0) A.rows.length E=M at *
 have eF:(AV.ck [.aB 3 (M.map aJ) M.length,.v (.int .i64 0)]).wf 0=true:=by simp only[AV.wf,aU,bt,agA]
 have hA:aU 0 [.agg (aN x),.aB 5 (E.map aR) E.length]=true:=by rw[aA];simp only[aU,AV.wf,df,bF,agA]
 rw[aA]at W hA⊢
 (refine aj.iA func12 rfl zo zo rfl hA eF ?_;simp only[ntmps12,results12,afa,aeq,Nat.reduceAdd,Nat.reduceSub,afU,afV,afK,afJ])
 (refine ae ?_;intro K hK K hK)
 refine ai.one W ?_
 (revert K;revert K;refine dG 4 ?_;intro K hK)
 have rV:=λf=>fJ f V (wV 0)
 refine qj [] (bP 78 [(1,.aB 5 (E.map aR) E.length),(4,.v (.slice none 0 0)),(5,.v (.int .i64 0)),(6,.vp V),(7,.v (.int .i64 0))]) [] zk rfl zk ?_ zo ?_
 ·simp only[bP,afO,afP,afU,afV,go_sem];simp only[rl,AV.ba,sig,go_sem,rV,wV];simp
 simp only[bP,afO,afP,afU,afV,go_sem]
 (revert K;refine ae ?_;intro K hK K hK)
 (revert K;revert K;refine aK RV ?_;intro K hK)
 have em:∃em,em=bM A 0:=⟨_,rfl⟩;obtain⟨em,hem⟩:=em;rw[<-hem]at hR hL
 refine gu (ι:=PL×Nat) 9 61 3 rfl zs 22 (λz=>[(9,.vec 0 z.1.length),(10,.v (.int .i64 (z.2:Nat))),(11,.undef),(12,.undef)]) (λz=>[some ⟨61,3,true,z.1.map aJ⟩]) (λz=>(aI E).length-z.2) (λz=>z.2<=(aI E).length∧∃dl:ByteArray->NL,(∀root,rh (ic A) E root (dl root))∧z.1=wJ (λs=>bM A s) em E dl z.2) ([],0) ⟨Nat.zero_le _,_,Cn U hb,rfl⟩ ?_ ?_
 ·refine ab (bJ ?_) ar ar
  all_goals exact⟨wV _,rfl⟩
 ·rintro⟨s,i⟩ ⟨hi,dl,hd,hs⟩ K hK;simp only at hi hs⊢
  rcases aes i (aI E).length with h|h
  ·have d1:decide ((i:Int)<((aI E).length:Int))=true:=b0;have e1:=getD_map aJ (aI E) i [] h;simp only[aJ]at e1
   have eN:((aI E).map aJ).length=(aI E).length:=zk
   have ws:=ag (k:=i) zd;have hv:=vz h
   have hd':∀l,rh (ic A) E (aI E)[i].1.1 l->∀root,rh (ic A) E root (if root=(aI E)[i].1.1 then l else dl root):=λl hl root=>by
    split
    ·rename_i hr;rw[hr];exact hl
    ·exact hd root
   have hS:=λl=>MX (tk:=λs=>bM A s) (em:=em) (dl:=dl) (l:=l) h;have hlen:=hL i hd;rw[<-hs]at hS hlen;obtain⟨v,hve⟩:∃v,v=(aI E)[i]:=⟨_,rfl⟩;simp only[<-hve]at e1 hv hd' hS
   obtain⟨b1,u⟩:∃b1,b1=if em=true then fH s ((v.1.1,v.1.1),v.2)else s:=⟨_,rfl⟩
   simp only[<-u]at hS
   have hb1l:b1.length<=100001:=by
    have:=FX s ((v.1.1,v.1.1),v.2)
    rw[u];split<;>omega
   have P1:=KB s v zd;rw[hv]at P1
   have eV2:v.1.2=v.1.1:=by rw[hv]
   repeat((fail_if_success (with_reducible refine Rl (i:=9) ?_));first|(with_reducible first|refine bG.up ?_|refineλ(K:AK)hK=>?_|refine au zs ?_|refine ay zs ?_|(refine hK _ ?_;clear hK K))|simp only[go_sem,d1,e1,eN]|with_reducible refine wA ?_|clear hK K)
   refine Hu (bP 78 [(1,.aB 5 (E.map aR) E.length),(4,.v (.slice none 0 0)),(5,.v (.int .i64 0)),(6,.vp V),(7,.v (.int .i64 0)),(8,.aB 3 ((aI E).map aJ) (aI E).length),(9,.vec 0 b1.length),(10,.v (.int .i64 (i:Nat)))]) [some ⟨61,3,true,b1.map aJ⟩] .no zo zo ?_ ?_ ?_
   ·intro k ob q
    match k,q with
    |0,q=>cases q;exact bt _ _
    |k+1,q=>simp at q
   ·simp only[bP,afO,afP,afU,afV,go_sem]
    ((iterate 3 revert K);refine fc e1 eN ?_;iterate 5 intro K hK)
    refine ai.two (ft.frame [] (RG v.1.1) zk rfl ?_ ?_ zk) ?_
    ·simp only[bV,AV.ba,rV,go_sem]
    ·simp only[aU,AV.wf,wV,go_sem]
    rintro r o' ⟨r0,o1,⟨l,hl1,hl2,rfl,rfl⟩,rfl,rfl⟩
    ((iterate 5 revert K);refine ae ?_;intro K hK K hK K hK)
    have hl3:l.length<=992:=Nat.le_trans hl2 (Nat.mul_le_mul hl ok.max);obtain⟨B,hB⟩:∃B,B=tM (λs=>bM A s) v.1.1 l b1:=⟨_,rfl⟩
    have hB0:B 0=b1:=by rw[hB];rfl
    have hBs:∀k(q:k<l.length),B (k+1)=if bM A (l[k].1.2:Nat)=true then fH (B k) ((v.1.1,l[k].1.1),l[k].2)else B k:=λk q=>by rw[hB];exact I0 q
    have hBl:∀k,(B k).length<=200000:=λk=>by
     have:=MW (tk:=λs=>bM A s) (root:=v.1.1) (l:=l) (b:=b1) (k:=k)
     rw[hB];omega
    have hBe:wJ (λs=>bM A s) em E (λr=>if r=v.1.1 then l else dl r) (i+1)=B l.length:=by rw[hB];exact hS l
    clear hB
    refine aO (ι:=Nat) 22 (λk=>[(9,.vec 0 (B k).length),(12,.v (.int .i64 (k:Nat)))]) (λk=>[some ⟨61,3,true,(B k).map aJ⟩,some ⟨92,3,true,l.map pC⟩]) (λk=>l.length-k) (λk=>k<=l.length) 0 (Nat.zero_le _) ?_ ?_
    ·rw[hB0];refine ab (bJ ?_) ar ar
     all_goals first|exact⟨wV _,rfl⟩
    ·rintro k q K hK
     rcases aes k l.length with O|O
     ·have d2:decide ((k:Int)<(l.length:Int))=true:=b0;have e2:=CA O
      have eN2:(l.map pC).length=l.length:=zk
      have ws2:=ag (k:=k) zd;have H:=hBs k O;have T:=TK (l[k].1.2:Nat);have P2:=KB (B k) ((v.1.1,l[k].1.1),l[k].2) (by have:=hBl k;omega);simp only[aJ]at P2
      ((iterate 4 revert K);refine ak (nq d2 e2 eN2) ?_;iterate 7 intro K hK)
      refine ai.one T ?_
      cases ht:bM A (l[k].1.2:Nat)
      ·rw[ht]at H;simp only[Bool.false_eq_true,if_false]at H
       ((iterate 7 revert K);refine fc ht ws2 ?_)
       refine aw.mk (k+1) O (show l.length-(k+1)<l.length-k by omega) ?_;rw[H];refine ab (bJ ?_) ar ar
       all_goals exact wV _
      ·rw[ht]at H;simp only[if_true]at H
       ((iterate 7 revert K);refine jf 16 ht ?_;iterate 5 intro K hK)
       refine bE [17] [] za zo ?_
       ((iterate 5 revert K);refine ak (pG e1 e2 eN eN2) ?_;iterate 6 intro K hK)
       refine dQ.fr [0] P2 zk ?_ ?_ ?_ ?_ ?_
       ·simp only[aga,agE,afD,aeO,aa.ba,bn _ _ (bt 0 _)]
       ·rfl
       ·rfl
       ·intro k ob q
        match k,q with
        |0,q=>cases q;exact bt _ _
        |k+1,q=>simp at q
       rw[<-H];simp only[fj,List.set_cons_zero,List.set_cons_succ,aeO,Option.map_none,aa.ba,bn _ _ (bt 0 _),afJ,agy,agE,aga,afa,aeq,Nat.reduceAdd,afK]
       ((iterate 6 revert K);refine dG 14 ?_;iterate 4 intro K hK)
       refine qj [4,1] (bP 78 [(1,.aB 5 (E.map aR) E.length),(4,.v (.slice none 0 0)),(5,.v (.int .i64 0)),(6,.vp V),(7,.v (.int .i64 0)),(8,.aB 3 ((aI E).map aJ) (aI E).length),(9,.vec 0 (B (k+1)).length),(10,.v (.int .i64 (i:Nat))),(11,.vec 1 l.length),(12,.v (.int .i64 (k:Nat)))]) [some ⟨61,3,true,(B (k+1)).map aJ⟩,some ⟨92,3,true,l.map pC⟩] zk ?_ ?_ ?_ zo ?_
       ·simp only[aga,agE,afD,List.getElem?_cons_succ,aeO,aa.ba,bn _ _ (bt 0 _),bn _ _ (dh 0 _)]
       ·intro k ob q
        match k,q with
        |0,q=>cases q;exact bt _ _
        |1,q=>cases q;exact dh _ _
        |k+2,q=>simp at q
       ·simp only[bP,afO,afP,afU,afV,go_sem];simp only[rl,AV.ba,sig,go_sem,rV,wV];simp
       simp only[bP,afO,afP,afU,afV,go_sem]
       ((iterate 4 revert K);refine ak ws2 ?_)
       refine aw.mk (k+1) O (show l.length-(k+1)<l.length-k by omega) ?_;refine ab (bJ ?_) ar ar
       all_goals exact wV _
     ·have hin:k=l.length:=zd
      have d2:decide ((k:Int)<(l.length:Int))=false:=bi;subst hin
      ((iterate 4 revert K);refine fc d2 ws ?_)
      refine aw.mk (B l.length,i+1) ⟨h,_,hd' l hl1,hBe.symm⟩ (show(aI E).length-(i+1)<(aI E).length-i by omega) ?_;refine ab (bJ ?_) ar ar
      all_goals exact wV _
   ·((iterate 3 revert K);refine ae ?_;iterate 5 intro K hK)
    refine ai.one (TK 0) ?_;rw[<-hem]
    cases Y:em
    ·rw[Y]at u;simp only[Bool.false_eq_true,if_false]at u
     ((iterate 5 revert K);refine ak Y ?_)
     refine⟨[0],zk,by rw[u];rfl,?_⟩;simp only[bP,afO,afP,afU,afV,go_sem];simp only[rl,AV.ba,sig,go_sem,rV,wV];simp[<-u]
    ·rw[Y]at u;simp only[if_true]at u
     ((iterate 5 revert K);refine ak (pG Y e1 eN eV2) ?_;iterate 4 intro K hK)
     refine ai.two P1 ?_;rintro r o' ⟨rfl,rfl⟩
     ((iterate 4 revert K);refine ae ?_)
     refine⟨[3],zk,by rw[u];rfl,?_⟩;simp only[bP,afO,afP,afU,afV,go_sem];simp only[rl,AV.ba,sig,go_sem,rV,wV];simp[<-u]
  ·have hin:i=(aI E).length:=zd
   have d1:decide ((i:Int)<((aI E).length:Int))=false:=bi;rw[hin,hR hd]at hs
   (revert K;revert K;refine ak d1 ?_)
   refine bB.ck ⟨?_,bB.v _,trivial⟩;subst hs;exact bB.sg (ob:=⟨61,3,true,s.map aJ⟩) rfl rfl zk (bt _ _)
theorem Xf{x:Ex}{A:oZ}(q:aD x=true)(L:NK x A):bM A 0=cH x:=by
 have u:cH x=kO x []:=by
  rw[cH,q,Bool.true_and,Bool.eq_iff_iff,iL (fO q).1,iN];simp[q]
 have U:=L.pos;rw[u, <- L.aau [],dR,yo,bM]
 have O:decide ((0:Int)<=0)=true:=zs
 have H:decide ((0:Int)<(A.rows.length:Int))=true:=b0;rw[O,H];rfl
theorem Bt(x:Ex)(e:Int)(q:e≠0)(E:Id)(W:aj prog 36 [.agg (aN x),.aB 5 (E.map aR) E.length] (.ck [.v (.pointer none),.v (.int .i64 e)])):aj prog 12 [.agg (aN x),.aB 5 (E.map aR) E.length] (.ck [.v (.slice none 0 0),.v (.int .i64 e)]):=by
 have z0:(e !=0)=true:=by simp[q]
 rw[aA]at W⊢;refine gE func12 ntmps12 results12 ?_
 (refine ae ?_;intro K hK K hK)
 (revert K;revert K;refine dA W z0 ?_)
 (refine iG.of 40 rfl ?_;simp only[go_sem])
theorem QJ(x:Ex)(E:Id)(NW:aj prog 68 [.agg (aN x)] (IP x))(Y:∀e∈E,JB e)(hl:E.length<=31):aj prog 12 [.agg (aN x),.aB 5 (E.map aR) E.length] (tH x E):=by
 unfold IP at NW;unfold tH
 cases u:fZ x (ct x)with
 |inr e=>
  rw[u]at NW;have O:=uz u
  have H:iQ x E=e:=by rw[iQ,u]
  rw[H,if_neg O];exact Bt x e O E (R2 x e O E NW)
 |inl A=>
  rw[u]at NW;obtain⟨U,_,L,LO⟩:=JU u;have W:=U9 x A E NW Y zd
  have H:iQ x E=fb E:=by rw[iQ,u]
  rw[H]
  by_cases q:fb E=0
  ·rw[DV,if_pos q]at W;rw[if_pos q]
   have V:gY x E=lL x A E:=by rw[gY,u];simp only[if_pos q]
   rw[V,lL, <- Xf U L];exact Na x A L.toAOk E W (UF LO) (QV LO.ends) (λm=>xq m A) q hl
  ·rw[DV,if_neg q]at W;rw[if_neg q];exact Bt x _ q E W
theorem Uz(x:Ex)(E:Id)(f:ByteArray)(PR:aj prog 12 [.agg (aN x),.aB 5 (E.map aR) E.length] (tH x E))(hL:(gY x E).length<=100000):aj prog 14 [.agg (aN x),.aB 5 (E.map aR) E.length,.v (.string f)] (E3 x E f):=by
 unfold tH at PR;unfold E3;generalize gY x E=L at *;generalize iQ x E=c at *
 by_cases A:c=0
 case neg=>
  rw[if_neg A]at PR⊢
  have z0:(c !=0)=true:=by simp[A]
  rw[aA]at PR⊢;refine gE func14 ntmps14 results14 ?_
  (refine ae ?_;intro K hK K hK)
  (revert K;revert K;refine dA PR z0 ?_)
  (refine iG.of 40 rfl ?_;simp only[go_sem])
 rw[if_pos A]at PR⊢
 have eF:(AV.ck [.aB 3 ((cY f L).map aJ) (cY f L).length,.v (.int .i64 0)]).wf 0=true:=by simp only[AV.wf,aU,bt,agA]
 have H:aU 0 [.agg (aN x),.aB 5 (E.map aR) E.length,.v (.string f)]=true:=by rw[aA];simp only[aU,AV.wf,df,bF,agA]
 rw[aA]at PR H⊢
 (refine aj.iA func14 rfl zo zo rfl H eF ?_;simp only[ntmps14,results14,afa,aeq,Nat.reduceAdd,Nat.reduceSub,afU,afV,afK,afJ])
 (refine ae ?_;intro K hK K hK)
 (revert K;revert K;refine aK PR ?_;intro K hK)
 refine gu (ι:=Nat) 10 61 3 rfl zs 21 (λk=>[(10,.vec 1 (cY f (L.take k)).length),(11,.v (.int .i64 (k:Nat)))]) (λk=>[some ⟨25,3,false,[[.v (.int .i64 x.kind),.v (.string x.label),.aB 3 (x.kids.map aN) x.kids.length]]⟩,some ⟨61,3,true,(cY f (L.take k)).map aJ⟩]) (λk=>L.length-k) (λk=>k<=L.length) 0 (Nat.zero_le _) ?_ ?_
 ·refine ab (bJ ?_) (bJ ?_) ar
  all_goals first|exact⟨rfl,rfl⟩|rfl
 ·rintro k Y K hK
  rcases aes k L.length with h|h
  ·have d1:decide ((k:Int)<(L.length:Int))=true:=b0;have O:=qu h
   have eN:(L.map aJ).length=L.length:=zk
   have ws:=ag (k:=k) zd
   have eY:cY f (L.take (k+1))=cY f (L.take k)++if L[k].1.1=f then [L[k]]else []:=by
    rw[cY,cY,agO h,List.filter_append]
    by_cases q:L[k].1.1=f<;>simp[q]
   have eM:((cY f (L.take k)).map aJ).length=(cY f (L.take k)).length:=zk
   have eW:=λn=>bt n (cY f (L.take (k+1)));have U:(cY f (L.take k)).length<=100000:=Nat.le_trans (List.length_filter_le _ _) (by rw[List.length_take];omega)
   by_cases q:L[k].1.1=f
   ·have d2:(L[k].1.1.toList==f.toList)=true:=by rw[q];simp
    rw[if_pos q]at eY
    (revert K;revert K;refine ak (oT d1 O eN d2 eM ws) ?_)
    refine aw.mk (k+1) h (show L.length-(k+1)<L.length-k by omega) ?_;rw[eY]at eW⊢;simp only[List.map_append,aga,agE,aew,afa,aeq,aJ]at eW⊢;exact ab ar ar ar
    all_goals first|exact eW _|exact⟨rfl,eW _⟩
   ·have d2:(L[k].1.1.toList==f.toList)=false:=by
     cases V:(L[k].1.1.toList==f.toList)
     ·rfl
     ·exact absurd (toList_inj.1 V) q
    rw[if_neg q,agy]at eY
    (revert K;revert K;refine ak (oT d1 O eN d2 eM ws) ?_)
    refine aw.mk (k+1) h (show L.length-(k+1)<L.length-k by omega) ?_;rw[eY]at eW⊢;exact ab ar ar ar
    all_goals first|exact eW _|exact⟨rfl,eW _⟩
  ·have u:k=L.length:=zd
   have d1:decide ((k:Int)<(L.length:Int))=false:=bi
   have W:L.take k=L:=by rw[u,agP]
   (revert K;revert K;refine ak d1 ?_)
   rw[W];exact bB.ck ⟨bB.sg (ob:=⟨61,3,true,(cY f L).map aJ⟩) rfl rfl zk (bt _ _),bB.v _,trivial⟩
def jk(i:Nat):C5:=[.v (.string ⟨#[109]⟩),.v (.int .i64 0),zY i,.v (.string ⟨#[]⟩)]
def fu(i:Nat):C5:=[.v (.string ⟨#[]⟩),.v (.string ⟨#[]⟩),.v (.string ⟨#[]⟩),zY i,.v (.slice none 0 0)]
def dI(e:bH):C5:=[.v (.string e.bP),.v (.string e.to),.v (.string e.label),.v (.int .i64 e.time),.aB 4 (e.props.map cX++marksOf jk) e.props.length]
@[go_sem] theorem abS(n k:Nat):bD n (kF jk k)=true:=ej n _ (λ_=>rfl) k
@[go_sem] theorem vC(n:Nat):bD n (marksOf jk)=true:=ej n _ (λ_=>rfl) 12
@[go_sem] theorem abO(n k:Nat):bD n (kF fu k)=true:=ej n _ (λ_=>rfl) k
@[go_sem] theorem BN(n:Nat):bD n (marksOf fu)=true:=ej n _ (λ_=>rfl) 12
theorem BL(n:Nat)(e:bH):aU n (dI e)=true:=by simp only[dI,aU,AV.wf,gz,cM,vC,Bool.and_true,agA]
@[go_sem] theorem RQ(n:Nat)(l:Id):bD n (l.map dI)=true:=bw _ (BL n) l
theorem Kn(i:Nat)(hi:i<1000):aj prog 100 [.v (.int .i64 1),.v (.int .i64 i)] (.agg (jk i)):=by
 have M:=IK i hi;simp only[zY]at M;simp only[jk,zY];refine gE func100 ntmps100 results100 ?_
 (refine ae ?_;intro K hK K hK)
 (revert K;revert K;refine aK M ?_)
 (refine iG.of 40 rfl ?_;simp only[go_sem])
theorem Km(i:Nat)(hi:i<1000):aj prog 35 [.v (.int .i64 1),.v (.int .i64 i)] (.agg (fu i)):=by
 have M:=IK i hi;simp only[zY]at M;simp only[fu,zY];refine gE func35 ntmps35 results35 ?_
 (refine ae ?_;intro K hK K hK)
 (revert K;revert K;refine aK M ?_)
 (refine iG.of 40 rfl ?_;simp only[go_sem])
theorem TR(l:Rd)(hl:l.length<=1000000) :
  aj prog 66 [.aB 4 (l.map cX) l.length] (.aB 4 (l.map cX++marksOf jk) l.length):=by
 have H:IntKind.i64.wrap ((l.length:Int)+12)=((l.length+12:Nat):Int):=DU hl
 have eT:List.take l.length (l.map cX)=l.map cX:=by rw[List.take_of_length_le zk]
 refine gE func66 ntmps66 results66 ?_
 (refine fc H eT ?_;intro K hK)
 refine b6 (ι:=Nat) (λi=>[(0,.aB 4 (l.map cX) l.length),(2,.v (.slice none 0 0)),(3,.vec 0 (l.length+i)),(4,.v (.int .i64 i))]) (λi=>[some ⟨173,4,true,l.map cX++kF jk i⟩]) (λi=>12-i) (λi=>i<=12) 0 zd ?_ ?_
 ·refine ab (bJ ?_) (bJ ?_) ar
  ·exact⟨rfl,rfl⟩
  ·simp[kF]
 ·intro i hi K hK;simp only[bP,afO,afP,afU,afV,go_sem]
  (revert K;revert K;refine ae ?_;intro K hK K hK K hK)
  refine cn.part (λq=>?_) (λq=>?_)
  ·have A:i<12:=by replace q:=cq q;omega
   have eW:=ag (k:=i) zd;have M:=Kn i zd;simp only[jk,zY]at M
   ((iterate 3 revert K);refine ak eW ?_;iterate 4 intro K hK)
   ((iterate 4 revert K);refine dA M eW ?_)
   exact aw.mk (i+1) zd zd (by refine ab (bJ ?_) (bJ ?_) ar<;>rfl)
  ·have u:i=12:=by replace q:=cq q;omega
   have eM:kF jk i=marksOf jk:=by rw[u];rfl
   ((iterate 3 revert K);refine ak eM ?_)
   exact iG.aB (by simp only[gz,cM,vC,agA])
theorem IG(e:bH)(q:e.props.length<=1000000):aj prog 34 [.agg (aR e)] (.agg (dI e)):=by
 have C:=TR e.props q;simp only[aR,dI];refine gE func34 ntmps34 results34 ?_
 (refine ae ?_;intro K hK K hK)
 (revert K;revert K;refine aK C ?_)
 (refine iG.of 40 rfl ?_;simp only[go_sem])
theorem FB(l:Id)(hl:l.length<=1000000)(O:∀p,p∈l->p.props.length<=1000000) :
  aj prog 11 [.aB 5 (l.map aR) l.length] (.aB 5 (l.map dI++marksOf fu) l.length):=by
 have U:IntKind.i64.wrap ((l.length:Int)+12)=((l.length+12:Nat):Int):=by rw[bT zd zd];omega
 refine gE func11 ntmps11 results11 ?_
 (refine ak U ?_;intro K hK)
 refine b6 (ι:=Nat) (λk=>[(0,.aB 5 (l.map aR) l.length),(2,.v (.slice none 0 0)),(3,.vec 0 k),(4,.v (.int .i64 k))]) (λk=>[some ⟨35,5,true,(l.take k).map dI⟩]) (λk=>l.length-k) (λk=>k<=l.length) 0 zd ?_ ?_
 ·refine ab (bJ ?_) ar ar
  rfl
 ·intro k V K hK;simp only[bP,afO,afP,afU,afV,go_sem]
  (revert K;revert K;refine ae ?_;intro K hK K hK K hK)
  refine cn.part (λh=>?_) (λh=>?_)
  ·have q:k<l.length:=by replace h:=qs h;omega
   have eG:=getD_map aR l k [] q;have eW:=ag (k:=k) zd;have HX:=IG l[k] (O _ (List.getElem_mem q));have eT:(l.take (k+1)).map dI=(l.take k).map dI++[dI l[k]]:=re dI l k q;simp only[aR,dI]at HX eG eT
   repeat(first|(with_reducible first|refine bG.up ?_|refineλ(K:AK)hK=>?_|(refine hK _ ?_;clear hK K))|simp only[go_sem,eG,eW,aR]|with_reducible refine wA ?_|clear hK K)
   refine ai.one HX ?_
   have eL:(l.take k).length=k:=by rw[List.length_take];omega
   ((iterate 5 revert K);refine fc eW eL ?_)
   exact aw.mk (k+1) zd zd (by refine ab ar (bJ ?_) ar;exact eT.symm)
  ·have u:k=l.length:=by replace h:=qs h;omega
   have eA:List.map dI (List.take k l)=l.map dI:=by rw[u,List.take_length]
   ((iterate 3 revert K);refine ak eA ?_;intro K hK)
   refine b6 (ι:=Nat) (λi=>[(0,.aB 5 (l.map aR) l.length),(2,.v (.slice none 0 0)),(3,.vec 0 (l.length+i)),(6,.v (.int .i64 i))]) (λi=>[some ⟨35,5,true,l.map dI++kF fu i⟩]) (λi=>12-i) (λi=>i<=12) 0 zd ?_ ?_
   ·refine ab (bJ ?_) (bJ ?_) ar
    ·exact⟨u,rfl⟩
    ·simp[kF]
   ·intro i hi K hK;simp only[bP,afO,afP,afU,afV,go_sem]
    (revert K;revert K;refine ae ?_;intro K hK K hK K hK)
    refine cn.part (λA=>?_) (λA=>?_)
    ·have q:i<12:=by replace A:=qs A;omega
     have eW:=ag (k:=i) zd;have M:=Km i zd;simp only[fu,zY]at M
     ((iterate 3 revert K);refine ak eW ?_;iterate 4 intro K hK)
     ((iterate 4 revert K);refine dA M eW ?_)
     exact aw.mk (i+1) zd zd (by refine ab (bJ ?_) (bJ ?_) ar<;>rfl)
    ·have H:i=12:=by replace A:=qs A;omega
     have eM:kF fu i=marksOf fu:=by rw[H];rfl
     ((iterate 3 revert K);refine ak eM ?_)
     exact iG.aB (by simp only[gz,RQ,BN,agA])
theorem zm(x y:Ex):aj prog 42 [.agg (aN x),.agg (aN y)] (.v (.bool (jd x y))):=
 .vb zo (by simp only[aU,AV.wf,fp,agA]) (λD nu w vargs h=>by
  obtain⟨a,b,rfl,u,q⟩:=UB h;obtain⟨ca,rfl,ka⟩:=Ds u;obtain⟨cb,rfl,kb⟩:=Ds q
  exact DD x y ca cb w (Dy x ca ka) (Dy y cb kb))
theorem vP(x:Ex):jd x x=true:=(LU x x).2 rfl
theorem sZ{α:Type}(f:α->C5)(l:List α)(m:List C5)(i:Nat)(h:i<l.length):(l.map f++m).getD i []=f l[i]:=by
 rw[ae2,aet (by simpa using h)];simp[h]
theorem FF(f:Nat->C5):∀n i,i<n->(kF f n)[i]?=some (f i)
 |0,i,h=>absurd h zd
 |n+1,i,h=>by
  rw[kF]
  rcases Nat.lt_or_ge i n with q|q
  ·rw[aet (by rw[pQ];exact q)];exact FF f n i q
  ·obtain rfl:i=n:=zd
   rw[aeK (by rw[pQ];exact Nat.le_refl _),pQ];simp
theorem Cz{α:Type}(f:α->C5)(l:List α)(m:Nat->C5)(j:Nat)(h:j<12):(l.map f++marksOf m).getD (l.length+j) []=m j:=by
 rw[ae2,aeK zk,List.length_map,Nat.add_sub_cancel_left,marksOf,FF m 12 j h];rfl
def exM(i:Nat):Ex:= .mk ((8000024+i:Nat):Int) ⟨#[]⟩ []
theorem CY(l:IO)(hl:l.length<=1000000)(H:∀x,x∈l->aj prog 18 [.agg (dn x),.agg (aN x)] (.v (.bool true))) :
  aj prog 43 [.aB 3 (l.map dn++marksOf fS) l.length,.aB 3 (l.map aN) l.length] (.v (.bool true)):=by
 have O:IntKind.i64.wrap ((l.length:Int)+12)=((l.length+12:Nat):Int):=DU hl;refine gE func43 ntmps43 results43 ?_
 (refine aM O ?_;intro K hK)
 refine b6 (ι:=Nat) (λi=>[(0,.aB 3 (l.map dn++marksOf fS) l.length),(1,.aB 3 (l.map aN) l.length),(4,.v (.bool false)),(5,.aB 3 (l.map dn++marksOf fS) (l.length+12)),(6,.v (.int .i64 i))]) (λ_=>[]) (λi=>l.length+12-i) (λi=>i<=l.length+12) 0 zd ?_ ?_
 ·refine ab (bJ ?_) ar ar
  rfl
 ·intro i hi K hK;simp only[bP,afO,afP,afU,afV,go_sem]
  (revert K;revert K;refine bj ?_;intro K hK K hK K hK)
  refine cn.part (λh=>?_) (λh=>?_)
  ·have u:i<l.length+12:=by replace h:=cq h;omega
   have eW:=ag (k:=i) zd
   rcases Nat.lt_or_ge i l.length with q|q
   ·have g1:decide ((i:Int)<(l.length:Int))=true:=by simpa using q
    have g2:decide ((l.length:Int)<=(i:Int))=false:=by simpa using q
    have eG:=sZ dn l (marksOf fS) i q;have eH:=getD_map aN l i [] q;have HX:=H l[i] (List.getElem_mem q);simp only[aA,mN]at HX eG eH
    ((iterate 3 revert K);refine aM (pG g1 g2 eG eH) ?_;iterate 5 intro K hK)
    ((iterate 5 revert K);refine uL HX (nq g1 g2 eW) ?_)
    exact aw.mk (i+1) zd zd (by exact ab ar ar ar)
   ·obtain⟨j,A⟩:∃j,i=l.length+j:=⟨i-l.length,zd⟩;have g1:decide ((i:Int)<(l.length:Int))=false:=bi;have g2:decide ((l.length:Int)<=(i:Int))=true:=b0
    have eS:IntKind.i64.wrap ((i:Int)-(l.length:Int))=(j:Int):=by rw[bT zd zd];omega
    have eG:(l.map dn++marksOf fS).getD i []=fS j:=by rw[A];exact Cz dn l fS j zd
    have M:=yK j zd;have S:=(zm (exM j) (exM j)).le (args':=[.agg (fS j),.agg (fS j)]) rfl (.cons (Fx j).agg (.cons (Fx j).agg .nil));rw[vP]at S;simp only[fS,zY]at M S eG
    ((iterate 3 revert K);refine cw (qq g1 g2 eG eS eW) ?_;iterate 5 intro K hK)
    ((iterate 5 revert K);refine uL M (qq g1 g2 eG eS eW) ?_;iterate 5 intro K hK)
    ((iterate 5 revert K);refine uL S (qq g1 g2 eG eS eW) ?_)
    exact aw.mk (i+1) zd zd (by exact ab ar ar ar)
  ·((iterate 3 revert K);exact E8)
theorem IB(x:Ex)(u:x.lens 1000000):aj prog 18 [.agg (dn x),.agg (aN x)] (.v (.bool true)):=by
 induction x using Ex.ind with
 |h k s l ih=>
  have H:∀y,y∈l->y.lens 1000000:=λy q z A=>u z (by rw[aq,bN];exact List.mem_cons_of_mem _ (List.mem_flatMap.2 ⟨y,q,A⟩));have C:=CY l (u (.mk k s l) (by rw[aq];exact List.mem_cons_self)) (λy q=>ih y q (H y q));have S:=(zm (.mk k s l) (.mk k s l)).le (args':=[.agg (dn (.mk k s l)),.agg (aN (.mk k s l))]) (by simp only[aU,AV.wf,nk,fp,agA]) (.cons (yC _).agg (.cons (.refl _) .nil));rw[vP]at S;rw[aA,mN]at S⊢;simp only[Ex.kind,Ex.label,Ex.kids]at S⊢;refine gE func18 ntmps18 results18 ?_
  (refine ae ?_;intro K hK K hK)
  (revert K;revert K;refine aK S ?_;intro K hK K hK)
  (revert K;revert K;exact lE C)
section
def YT(i:Nat):bH:=⟨⟨#[]⟩,⟨#[]⟩,⟨#[]⟩,((8000024+i:Nat):Int),[]⟩
theorem Fy(i:Nat):zN (fu i) (aR (YT i)):= .cons (.refl _) (.cons (.refl _) (.cons (.refl _) (.cons (.refl _) (.cons (.nil 4) .nil))))
def EN(m:List C5)(e:bH):C5:=[.v (.string e.bP),.v (.string e.to),.v (.string e.label),.v (.int .i64 e.time),.aB 4 (e.props.map cX++m) e.props.length]
theorem LL(e:bH):EN [] e=aR e:=by rw[EN,List.append_nil];rfl
theorem Gc(l:Rd)(m:List C5)(hl:l.length<=1000000)(q:∀n,bD n m=true):aj prog 74 [.aB 4 (l.map cX++m) l.length,.aB 4 (l.map cX) l.length] (.v (.bool true)):=by
 have eQ:∀n,bD n (l.map cX++m)=true:=λn=>by rw[gz,cM,q];rfl
 (refine aj.enter func74 rfl zo zo rfl (by simp only[go_sem,aU,AV.wf,agA,afo,afu,eQ]) (by simp only[go_sem,aU,AV.wf,bz,agA,afo,afu,eQ]) ?_;simp only[ntmps74,results74,afa,List.length_nil,Nat.reduceAdd,Nat.reduceSub,afU,afV,List.cons_append,List.nil_append])
 repeat(first|(with_reducible first|refine bG.up ?_|refineλ(K:AK)hK=>?_|refine wD ?_|(refine hK _ ?_;clear hK K))|simp only[go_sem,bne_self_eq_false]|with_reducible refine wA ?_|clear hK K)
 refine bg (ι:=Nat) 6 (λi=>[(5,.v (.int .i64 i))]) (λi=>l.length-i) (λi=>i<=l.length) 0 (Nat.zero_le _) ?_ ?_
 ·refine ab (bJ ?_) ar ar
  all_goals first|exact q _|exact⟨q _,rfl⟩|exact eQ _|rfl
 ·intro i hi K hK;have eW:=ag (k:=i) zd
  rcases aes i l.length with h|h
  ·have d1:decide ((i:Int)<(l.length:Int))=true:=b0;have eG:=sZ cX l m i h;have eH:=getD_map cX l i [] h;simp only[cX]at eG eH
   repeat(first|(with_reducible first|refine bG.up ?_|refineλ(K:AK)hK=>?_|refine wD ?_|(refine hK _ ?_;clear hK K))|simp only[go_sem,d1,eG,eH,bne_self_eq_false,beq_self_eq_true,agA,ahx]|with_reducible refine wA ?_|clear hK K)
   refine aM eW ?_;exact aw.mk (i+1) h zd (by refine ab (bJ ?_) ar ar;all_goals first|exact q _|exact eQ _)
  ·have d1:decide ((i:Int)<(l.length:Int))=false:=bi
   (revert K;revert K;exact Y4 d1)
theorem zl(e:bH)(m:List C5)(hl:e.props.length<=1000000)(q:∀n,bD n m=true):aj prog 45 [.agg (EN m e),.agg (aR e)] (.v (.bool true)):=by
 have C:=Gc e.props m hl q
 have eQ:∀n,bD n (e.props.map cX++m)=true:=λn=>by rw[gz,cM,q];rfl
 simp only[EN,aR]
 (refine aj.enter func45 rfl zo zo rfl (by simp only[go_sem,aU,AV.wf,agA,afo,afu,eQ]) (by simp only[go_sem,aU,AV.wf,bz,agA,afo,afu,eQ]) ?_;simp only[ntmps45,results45,afa,List.length_nil,Nat.reduceAdd,Nat.reduceSub,afU,afV,List.cons_append,List.nil_append])
 repeat(first|(with_reducible first|refine bG.up ?_|refineλ(K:AK)hK=>?_|(refine hK _ ?_;clear hK K))|simp only[go_sem,beq_self_eq_true]|clear hK K)
 refine ai.one C ?_
 repeat(first|(with_reducible first|refine bG.up ?_|refineλ(K:AK)hK=>?_|(refine hK _ ?_;clear hK K))|simp only[go_sem,beq_self_eq_true]|clear hK K)
theorem TG(l:Rd)(hl:l.length<=1000000) :
  aj prog 73 [.aB 4 (l.map cX++marksOf jk) l.length,.aB 4 (l.map cX) l.length] (.v (.bool true)):=by
 have H:IntKind.i64.wrap ((l.length:Int)+12)=((l.length+12:Nat):Int):=DU hl;refine gE func73 ntmps73 results73 ?_
 (refine aM H ?_;intro K hK)
 refine b6 (ι:=Nat) (λi=>[(0,.aB 4 (l.map cX++marksOf jk) l.length),(1,.aB 4 (l.map cX) l.length),(4,.v (.bool false)),(5,.aB 4 (l.map cX++marksOf jk) (l.length+12)),(6,.v (.int .i64 i))]) (λ_=>[]) (λi=>l.length+12-i) (λi=>i<=l.length+12) 0 zd ?_ ?_
 ·refine ab (bJ ?_) ar ar
  rfl
 ·intro i hi K hK;simp only[bP,List.foldl_cons,List.foldl_nil,afU,afV,go_sem]
  (revert K;revert K;refine bj ?_;intro K hK K hK K hK)
  refine cn.part (λh=>?_) (λh=>?_)
  ·have u:i<l.length+12:=by replace h:=cq h;omega
   have eW:=ag (k:=i) zd
   rcases aes i l.length with q|q
   ·have g1:decide ((i:Int)<(l.length:Int))=true:=by simpa using q
    have g2:decide ((l.length:Int)<=(i:Int))=false:=by simpa using q
    have eG:=sZ cX l (marksOf jk) i q;have eH:=getD_map cX l i [] q;simp only[cX]at eG eH
    repeat(first|(with_reducible first|refine bG.up ?_|refineλ(K:AK)hK=>?_|refine wD ?_|(refine hK _ ?_;clear hK K))|simp only[go_sem,g1,g2,eG,eH,eW,Go.undef,beq_self_eq_true,agA,ahx]|with_reducible refine wA ?_|clear hK K)
    exact aw.mk (i+1) zd zd (by exact ab ar ar ar)
   ·obtain⟨j,A⟩:∃j,i=l.length+j:=⟨i-l.length,zd⟩;have g1:decide ((i:Int)<(l.length:Int))=false:=bi;have g2:decide ((l.length:Int)<=(i:Int))=true:=b0
    have eS:IntKind.i64.wrap ((i:Int)-(l.length:Int))=(j:Int):=by rw[bT zd zd];omega
    have eG:(l.map cX++marksOf jk).getD i []=jk j:=by rw[A];exact Cz cX l jk j zd
    have M:=Kn j zd;simp only[jk,zY]at M eG
    ((iterate 3 revert K);refine cw (qq g1 g2 eG eS eW) ?_;iterate 5 intro K hK)
    refine b8.one M ?_
    repeat(first|(with_reducible first|refine bG.up ?_|refineλ(K:AK)hK=>?_|refine wD ?_|(refine hK _ ?_;clear hK K))|simp only[go_sem,g1,g2,eG,eS,eW,Go.undef,beq_self_eq_true,agA,ahx]|with_reducible refine wA ?_|clear hK K)
    exact aw.mk (i+1) zd zd (by exact ab ar ar ar)
  ·((iterate 3 revert K);exact E8)
theorem IA(e:bH)(hl:e.props.length<=1000000):aj prog 44 [.agg (dI e),.agg (aR e)] (.v (.bool true)):=by
 have C:=TG e.props hl;have S:=zl e (marksOf jk) hl (λn=>vC n);simp only[EN,aR,dI]at S⊢;refine gE func44 ntmps44 results44 ?_
 (refine ae ?_;intro K hK K hK)
 (revert K;revert K;refine aK S ?_;intro K hK K hK)
 (revert K;revert K;exact lE C)
theorem Fm(l:Id)(hl:l.length<=1000000)(u:∀p,p∈l->p.props.length<=1000000) :
  aj prog 19 [.aB 5 (l.map dI++marksOf fu) l.length,.aB 5 (l.map aR) l.length] (.v (.bool true)):=by
 have O:IntKind.i64.wrap ((l.length:Int)+12)=((l.length+12:Nat):Int):=DU hl;refine gE func19 ntmps19 results19 ?_
 (refine aM O ?_;intro K hK)
 refine b6 (ι:=Nat) (λi=>[(0,.aB 5 (l.map dI++marksOf fu) l.length),(1,.aB 5 (l.map aR) l.length),(4,.v (.bool false)),(5,.aB 5 (l.map dI++marksOf fu) (l.length+12)),(6,.v (.int .i64 i))]) (λ_=>[]) (λi=>l.length+12-i) (λi=>i<=l.length+12) 0 zd ?_ ?_
 ·refine ab (bJ ?_) ar ar
  rfl
 ·intro i hi K hK;simp only[bP,List.foldl_cons,List.foldl_nil,afU,afV,go_sem]
  (revert K;revert K;refine bj ?_;intro K hK K hK K hK)
  refine cn.part (λh=>?_) (λh=>?_)
  ·have A:i<l.length+12:=by(try simp only[decide_eq_true_eq,decide_eq_false_iff_not,Int.ofNat_lt,Int.ofNat_le]at h);omega
   have eW:=ag (k:=i) zd
   rcases aes i l.length with q|q
   ·have g1:decide ((i:Int)<(l.length:Int))=true:=by simpa using q
    have g2:decide ((l.length:Int)<=(i:Int))=false:=by simpa using q
    have eG:=sZ dI l (marksOf fu) i q;have eH:=getD_map aR l i [] q;have HX:=IA l[i] (u _ (List.getElem_mem q));simp only[aR,dI]at HX eG eH
    ((iterate 3 revert K);refine aM (pG g1 g2 eG eH) ?_;iterate 5 intro K hK)
    ((iterate 5 revert K);refine uL HX (nq g1 g2 eW) ?_)
    exact aw.mk (i+1) zd zd (by exact ab ar ar ar)
   ·obtain⟨j,H⟩:∃j,i=l.length+j:=⟨i-l.length,zd⟩;have g1:decide ((i:Int)<(l.length:Int))=false:=bi;have g2:decide ((l.length:Int)<=(i:Int))=true:=b0
    have eS:IntKind.i64.wrap ((i:Int)-(l.length:Int))=(j:Int):=by rw[bT zd zd];omega
    have eG:(l.map dI++marksOf fu).getD i []=fu j:=by rw[H];exact Cz dI l fu j zd
    have M:=Km j zd;have S:=zl (YT j) [] (Nat.zero_le _) (λ_=>rfl);rw[LL]at S;have S:=S.le (args':=[.agg (fu j),.agg (fu j)]) rfl (.cons (Fy j).agg (.cons (Fy j).agg .nil));simp only[fu,zY]at M S eG
    ((iterate 3 revert K);refine cw (qq g1 g2 eG eS eW) ?_;iterate 5 intro K hK)
    ((iterate 5 revert K);refine uL M (qq g1 g2 eG eS eW) ?_;iterate 5 intro K hK)
    ((iterate 5 revert K);refine uL S (qq g1 g2 eG eS eW) ?_)
    exact aw.mk (i+1) zd zd (by exact ab ar ar ar)
  ·((iterate 3 revert K);exact E8)
mutual
theorem F1:∀(x:Ex)(d:Nat),qX x d<=60->(aq x).length<=qX x d
 | .mk k s l,d,h=>by
  rw[qX]at h⊢
  split at h
  ·omega
  ·rename_i hd;rw[if_neg hd]
   have:=FZ l (d+1) 1 h
   rw[aq,afa];omega
theorem FZ:∀(l:IO)(d n:Nat),qL l d n<=60->n+(bZ l).length<=qL l d n
 | [],d,n,h=>by rw[qL,bZ];simp
 |x::xs,d,n,h=>by
  rw[qL]at h⊢
  split at h
  ·rename_i hn;rw[if_pos hn];have q:=FZ xs d (n+qX x d) h;have u:=F1 x d zd;rw[bZ,List.length_append];omega
  ·omega
end
theorem yD(e:bH):zN (dI e) (aR e):= .cons (.refl _) (.cons (.refl _) (.cons (.refl _) (.cons (.refl _) (.cons (.rows (λx _=> .refl _)) .nil))))
theorem yA(x:Ex)(E:Id)(f:ByteArray)(hx:x.ok)(hE:∀e∈E,e.ok)(hl:E.length<=140737488355328):aj prog 4 [.agg (aN x),.aB 5 (E.map aR) E.length,.v (.string f)] (.v (.bool true)):=by
 have W:=Lu;have GR:=Md x E hl
 cases U:Mc x E
 ·rw[U]at GR;obtain⟨h30,O⟩:=TA U
  have hq:qX x 0<=60:=by
   simp only[Mc,Bool.or_eq_false_iff,decide_eq_false_iff_not]at U;omega
  have hpx:=F1 x 0 hq;have hlens:=Tp (x:=x) (n:=1000000) zd;have NR:=Ub x zd (λz hz=>⟨by have:=iP x z hz;have:=me z;omega,by have:=Ul x hx z hz;unfold wG at this;omega⟩);have A:∀e∈E,xr e:=λe q=>(hE e q).aaw (by have:=O e q;omega)
  have hsm:∀e∈E,JB e:=λe q=>by
   have h:=hE e q;have h1:=h.bP;have h2:=h.to;have h3:=h.label;unfold wG at h1 h2 h3;refine⟨zd,zd,zd,λp hpp=>?_,by have:=O e q;omega⟩;obtain⟨k1,k2⟩:=h.props p hpp;unfold Ef.ok at k2;unfold wG at k1 k2;exact⟨zd,zd⟩
  have H:=Bd x E zd (tI x);have Y:zN [.agg (dn x),.aB 5 (E.map dI++marksOf fu) E.length] [.agg (aN x),.aB 5 (E.map aR) E.length]:= .cons (yC x).agg (.cons (.rows λe _=>yD e) .nil);have V:zN [.agg (dn x),.aB 5 (E.map dI++marksOf fu) E.length,.v (.string f)] [.agg (aN x),.aB 5 (E.map aR) E.length,.v (.string f)]:= .cons (yC x).agg (.cons (.rows λe _=>yD e) (.cons (.refl _) .nil))
  have u:bD 0 (E.map dI++marksOf fu)=true:=by rw[gz,BN,bw _ (λe=>BL 0 e)];rfl
  have PS:=(BY x E hx A zd (tI x)).le (args':=[.agg (dn x),.aB 5 (E.map dI++marksOf fu) E.length]) (by simp only[aU,AV.wf,nk,u,agA]) Y;have FS:=(VU x E f hx A zd (tI x)).le (args':=[.agg (dn x),.aB 5 (E.map dI++marksOf fu) E.length,.v (.string f)]) (by simp only[aU,AV.wf,nk,u,agA]) V;have VS:=(Dq E zd).le (args':=[.aB 5 (E.map dI++marksOf fu) E.length]) (by simp only[aU,AV.wf,u,agA]) (.cons (.rows λe _=>yD e) .nil);have PR:=QJ x E NR hsm zd;have FR:=Uz x E f PR H;have VR:=KJ E zd;have LX:=II x hlens;have KX:=IB x hlens;have LE:=FB E zd (λe q=>by have:=O e q;omega);have KE:=Fm E zd (λe q=>by have:=O e q;omega)
  have hN:(aI E).length<=1000000:=by
   have:=lW E E.length (Nat.le_refl _)
   rw[List.take_length]at this;rw[aI,(cL _).length_eq];omega
  have SV:=pY (aI E) hN;unfold tH at PS PR;unfold E3 at FS FR;have hFl:(cY f (gY x E)).length<=100000:=Nat.le_trans (List.length_filter_le _ _) H;have S1:=pY (gY x E) zd;have S2:=pY (cY f (gY x E)) zd;generalize gY x E=L at *;generalize cY f L=M at *;generalize iQ x E=c at *;simp only[aA,mN]at *;have S0:=(pY [] zk).le (args':=[.v (.slice none 0 0),.v (.slice none 0 0)]) rfl (.cons (.nil 3) (.cons (.nil 3) .nil))
  by_cases h0:c=0
  ·rw[if_pos h0]at PS PR FS FR;refine gE func4 ntmps4 results4 ?_
   (refine ae ?_;intro K hK K hK K hK)
   ((iterate 3 revert K);refine aK GR ?_;intro K hK K hK)
   (revert K;revert K;refine aK LX ?_;intro K hK K hK)
   (revert K;revert K;refine aK LE ?_;intro K hK K hK)
   (revert K;revert K;refine aK PS ?_;intro K hK K hK)
   (revert K;revert K;refine aK PR ?_;intro K hK K hK)
   (revert K;revert K;refine aK FS ?_;intro K hK K hK)
   refine ai.one FR ?_
   repeat(first|(with_reducible first|refine bG.up ?_|refineλ(K:AK)hK=>?_|(refine hK _ ?_;clear hK K))|simp only[go_sem,beq_self_eq_true,Go.undef]|with_reducible refine wA ?_|clear hK K)
   (revert K;revert K;refine je S1 ?_;intro K hK K hK)
   (revert K;revert K;refine je S2 ?_;intro K hK K hK)
   (revert K;revert K;refine je VS ?_;intro K hK K hK)
   (revert K;revert K;refine je VR ?_;intro K hK K hK)
   (revert K;revert K;refine je SV ?_;intro K hK K hK)
   (revert K;revert K;refine je KX ?_;intro K hK K hK)
   (revert K;revert K;refine je KE ?_;intro K hK K hK)
   (revert K;revert K;exact Ig W)
  ·rw[if_neg h0]at PS PR FS FR;refine gE func4 ntmps4 results4 ?_
   (refine ae ?_;intro K hK K hK K hK)
   ((iterate 3 revert K);refine aK GR ?_;intro K hK K hK)
   (revert K;revert K;refine aK LX ?_;intro K hK K hK)
   (revert K;revert K;refine aK LE ?_;intro K hK K hK)
   (revert K;revert K;refine aK PS ?_;intro K hK K hK)
   (revert K;revert K;refine aK PR ?_;intro K hK K hK)
   (revert K;revert K;refine aK FS ?_;intro K hK K hK)
   refine ai.one FR ?_
   repeat(first|(with_reducible first|refine bG.up ?_|refineλ(K:AK)hK=>?_|(refine hK _ ?_;clear hK K))|simp only[go_sem,beq_self_eq_true,Go.undef]|with_reducible refine wA ?_|clear hK K)
   (revert K;revert K;refine je S0 ?_;intro K hK K hK)
   (revert K;revert K;refine je S0 ?_;intro K hK K hK)
   (revert K;revert K;refine je VS ?_;intro K hK K hK)
   (revert K;revert K;refine je VR ?_;intro K hK K hK)
   (revert K;revert K;refine je SV ?_;intro K hK K hK)
   (revert K;revert K;refine je KX ?_;intro K hK K hK)
   (revert K;revert K;refine je KE ?_;intro K hK K hK)
   (revert K;revert K;exact Ig W)
 ·rw[U]at GR;rw[aA]at GR⊢;refine gE func4 ntmps4 results4 ?_
  (refine ae ?_;intro K hK K hK K hK)
  ((iterate 3 revert K);refine aK GR ?_;intro K hK K hK K hK)
  ((iterate 3 revert K);exact lE W)
end
end Go.Proofs.YtlhhccmopfamhaaGreatDoor
