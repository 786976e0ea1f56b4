/- texts of one claim, one behind the other. -/
import Derived.Test.YtlhhccmopfamhaaGreatDoorQGo
import Derived.Test.YtlhhccmopfamhaaGreatDoorQExprC
import Derived.Test.YtlhhccmopfamhaaGreatDoorRows
import Derived.Test.YtlhhccmopfamhaaGreatDoorQValue
import Derived.LaidMore
import Derived.OpenShut
import Derived.Test.YtlhhccmopfamhaaGreatDoorQAbs
import Derived.Test.YtlhhccmopfamhaaGreatDoorQFen
import Derived.MapKept
import Derived.Sort.Walk0
import Derived.Maps.RangeRun
import Derived.Sort.MapsRangeIn
set_option linter.unusedSimpArgs false
set_option linter.unusedVariables false
set_option maxRecDepth 100000
set_option maxHeartbeats 16000000
open BitVec renaming eq_of_toNat_eq -> af2, lt_of_getLsbD -> af3, eq_of_getLsbD_eq -> af4, getLsbD_and -> af5, getLsbD_neg -> af6
open Bool renaming not_eq_true -> ae1, eq_iff_iff -> agj, and_eq_true -> ae6, and_true -> afo
open List renaming mem_cons_of_mem -> ae7, mem_cons -> afZ, getElem?_eq_some_iff -> aeu, drop_eq_getElem_cons -> af7, length_cons -> afa, mem_append_left -> af8, getElem?_eq_getElem -> aeC, getD_eq_getElem?_getD -> ae2, map_cons -> aga, nodup_cons -> agb, not_mem_nil -> agc, mem_cons_self -> afr, mem_append -> agd, mem_singleton -> age, length_append -> aew, length_nil -> aeq, lt_irrefl -> agf, lt_trans -> agh, pairwise_cons -> agi, nodup_nil -> afb, mem_flatMap -> af0, getElem?_toArray -> aeD, size_toArray -> afj, filter_cons_of_pos -> agk, filter_cons_of_neg -> agl, getElem_of_mem -> agn, nil_append -> afJ, cons_append -> afK, set_append_right -> ago, getElem?_range' -> agp, length_range' -> agq, mem_of_getElem? -> aeQ, ext_getElem -> agr, getElem_map -> ags, getElem?_append_left -> aet, getElem?_set_ne -> aeH, getElem?_set_self -> aeG, range_succ -> agt, getElem?_range -> aeF, map_congr_left -> agu
open Nat renaming lt_or_ge -> aes, le_refl -> aen, sub_self -> afc
open Option.some renaming inj -> aem, injEq -> aez
open Go.MapKept renaming bytes_beq -> af9
open Option renaming map_some -> aeO
open Array renaming getElem?_setIfInBounds_ne -> agm, getElem?_eq_getElem -> aeB, getElem?_eq_some_iff -> aer
namespace Go.Proofs.YtlhhccmopfamhaaGreatDoor
open Go.RowKit
open Go.Proofs.Tryz
section
theorem qd(n:Int):IntKind.u32.wrap n=n % 4294967296:=by simp[IntKind.wrap,IntKind.signed,IntKind.bits]
theorem Jl(m:BitVec 32):IntKind.u32.wrap (m.toNat:Int)=m.toNat:=by
 rw[qd];have:=m.isLt;omega
theorem lr(m:BitVec 32):BitVec.ofInt 32 (m.toNat:Int)=m:=by
 simp
theorem Ko(m:BitVec 32):IntKind.u32.wrap ((m.toNat:Int)-1)=(m-1#32).toNat:=by
 rw[qd,BitVec.toNat_sub];have:=m.isLt;simp;omega
theorem T0(m:BitVec 32):IntKind.u32.wrap (0-(m.toNat:Int))=(-m).toNat:=by
 rw[qd,BitVec.toNat_neg];have:=m.isLt;omega
theorem TZ(m:BitVec 32):IntKind.u32.wrap ((m.toNat:Int)*125613361)=(m*125613361#32).toNat:=by
 rw[qd,BitVec.toNat_mul];simp
theorem T6(m:BitVec 32):(m.toNat:Int).fdiv (2 ^ min 27 32)=(m >>> 27).toNat:=by
 show(m.toNat:Int).fdiv (2 ^ 27)=_;rw[BitVec.toNat_ushiftRight,Nat.shiftRight_eq_div_pow];simp[Int.fdiv_eq_ediv_of_nonneg]
theorem T5(p:Nat):IntKind.u32.wrap (1*2 ^ p)=(1#32 <<< p).toNat:=by
 rw[qd,BitVec.toNat_shiftLeft,Nat.shiftLeft_eq];simp
theorem T4(m:BitVec 32):decide ((0:Int)<(m.toNat:Int))=(m !=0#32):=by
 by_cases h:m=0#32
 ·subst h;simp
 ·have e:m.toNat≠0:=λe=>h (af2 (by simpa using e));rw[bne_iff_ne.2 h];exact b0
theorem P7(m:BitVec 32):((m.toNat:Int)==0)=(m==0#32):=by
 by_cases h:m=0#32
 ·subst h;simp
 ·have e:m.toNat≠0:=λe=>h (af2 (by simpa using e));rw[beq_eq_false_iff_ne.2 h];exact beq_eq_false_iff_ne.2 zd
theorem Dh(m n:BitVec 32):Po .u32 m.toNat n.toNat=(m &&& n).toNat:=by
 rw[Po];show IntKind.u32.wrap ((BitVec.ofInt 32 _ &&& BitVec.ofInt 32 _).toNat:Int)=_;rw[lr,lr,Jl]
theorem nX(m n:BitVec 32):iOr .u32 m.toNat n.toNat=(m ||| n).toNat:=by
 rw[iOr];show IntKind.u32.wrap ((BitVec.ofInt 32 _ ||| BitVec.ofInt 32 _).toNat:Int)=_;rw[lr,lr,Jl]
theorem T3(m n:BitVec 32):w8 .u32 m.toNat n.toNat=(m &&& ~~~ n).toNat:=by
 rw[w8];show IntKind.u32.wrap ((BitVec.ofInt 32 _ &&& ~~~ BitVec.ofInt 32 _).toNat:Int)=_;rw[lr,lr,Jl]
def az(m:BitVec 32):Do:=(List.range 32).filter m.getLsbD
theorem bq{m:BitVec 32}{p:Nat}:p∈az m↔m.getLsbD p=true:=by
 simp only[az,List.mem_filter,List.mem_range];exact⟨λh=>h.2,λh=>⟨af3 h,h⟩⟩
theorem lC(m:BitVec 32):(az m).Pairwise (· < ·):=List.pairwise_lt_range.filter _
theorem LF(m:BitVec 32):(az m).length<=32:=by
 have:=List.length_filter_le m.getLsbD (List.range 32)
 simpa [az]using this
theorem nF:az 0#32=[]:=by simp[az]
theorem uC{m:BitVec 32}(h:az m=[]):m=0#32:=by
 refine af4 λi hi=>?_
 cases q:m.getLsbD i with
 |false=>simp
 |true=>have:=bq.2 q;rw[h]at this;cases this
theorem th{m:BitVec 32}{p:Nat}{r:Do}(h:az m=p::r):m.getLsbD p=true∧p<32∧(∀j,j<p->m.getLsbD j=false)∧∀j,j∈r↔(m.getLsbD j=true∧p<j):=by
 have H:m.getLsbD p=true:=bq.1 (by rw[h];simp);have u:=lC m;rw[h,List.pairwise_cons]at u
 refine⟨H,af3 H,λj q=>?_,λj=>⟨λq=>⟨bq.1 (by rw[h];exact ae7 _ q),u.1 j q⟩,λq=>?_⟩⟩
 ·cases O:m.getLsbD j with
  |false=>rfl
  |true=>
   have:=bq.2 O
   rw[h,afZ]at this
   rcases this with rfl|A
   ·omega
   ·have:=u.1 j A;omega
 ·have:=bq.2 q.1
  rw[h,afZ]at this
  rcases this with rfl|A
  ·omega
  ·exact A
theorem TT{m:BitVec 32}{p:Nat}{r:Do}(h:az m=p::r):m &&& -m=1#32 <<< p:=by
 obtain⟨A,O,u,H⟩:=th h;refine af4 λi hi=>?_;rw[af5,af6,BitVec.getLsbD_shiftLeft,BitVec.getLsbD_one]
 rcases Nat.lt_trichotomy i p with q|q|q
 ·simp[u i q,q]
 ·subst q
  have: ¬ ∃j,j<i∧m.getLsbD j=true:=λ⟨j,a,b⟩=>by rw[u j a]at b;cases b
  rw[A,decide_eq_false this];simp[hi]
 ·have:∃j,j<i∧m.getLsbD j=true:=⟨p,q,A⟩
  have e:i-p≠0:=zd
  simp[this,hi,e]
theorem PZ{m:BitVec 32}{p:Nat}{r:Do}(h:az m=p::r):az (m &&& (m-1#32))=r:=by
 obtain⟨O,V,H,U⟩:=th h;have A:=lC m;rw[h,List.pairwise_cons]at A
 have key:∀j,(m &&& (m-1#32)).getLsbD j=true↔j∈r:=λj=>by
  rw[U, <- BitVec.not_neg,af5,BitVec.getLsbD_not,af6]
  rcases aes p j with q|q
  ·have:∃k,k<j∧m.getLsbD k=true:=⟨p,q,O⟩
   by_cases u:m.getLsbD j=true
   ·have:=af3 u
    simp_all
   ·simp_all
  ·by_cases u:m.getLsbD j=true
   ·have e:j=p:=by
     rcases aes j p with a|a
     ·rw[H j a]at u;cases u
     ·omega
    subst e
    have: ¬ ∃k,k<j∧m.getLsbD k=true:=λ⟨k,a,b⟩=>by rw[H k a]at b;cases b
    rw[O,decide_eq_false this];simp[V]
   ·simp_all
 exact tQ (lC _) A.2 (λj=>bq.trans (key j))
def aY(m:BitVec 32):AV:= .v (.int .u32 m.toNat)
def Gn:M2:=[0,1,28,2,29,14,24,3,30,22,20,15,25,17,4,8,31,27,13,23,21,19,16,7,26,12,18,6,11,5,10,9]
theorem Xe:∀p:Nat,p<32->Gn[((1#32 <<< p*125613361#32) >>> 27).toNat]?=some (p:Int):=zs
theorem Wg(s:AS):s.ev (.global 0)=.vp (Gn.map λi=> .v (.int .u8 i)):=rfl
theorem Tf{l:M2}{f:Int->AV}{n:Nat}{x:Int}(e:l[n]?=some x):∃r,(l.map f).drop n=f x::r:=by
 obtain⟨u,q⟩:=aeu.1 e;exact⟨_,by rw[af7 (by simpa using u),List.getElem_map,q]⟩
theorem Rs{p:Nat}(q:p<32):∃n r,((1#32 <<< p*125613361#32) >>> 27).toNat=n∧n<32∧(Gn.map λi=>AV.v (.int .u8 i)).drop n=.v (.int .u8 p)::r:=by
 have e:=Xe p q;generalize((1#32 <<< p*125613361#32) >>> 27).toNat=n at *;obtain⟨r,h⟩:=Tf (f:=λi=>AV.v (.int .u8 i)) e;exact⟨n,r,rfl,(aeu.1 e).1,h⟩
theorem Xm{m:BitVec 32}{p:Nat}{r:Do}(h:az m=p::r):∃(M H A u:Int)(n:Nat)(q:C5),(m.toNat:Int)=M∧(M==0)=false∧IntKind.u32.wrap (0-M)=H∧Po .u32 M H=A∧IntKind.u32.wrap (A*125613361)=u ∧
  u.fdiv (2 ^ min 27 32)=n∧n<32∧(Gn.map λi=>AV.v (.int .u8 i)).drop (n*1)=.v (.int .u8 p)::q:=by
 have O:=(th h).2.1
 have U:m≠0#32:=λe=>by rw[e,nF]at h;cases h
 obtain⟨n,q,eN,hn,eI⟩:=Rs O;refine⟨_,_,_,_,n,q,rfl,by rw[P7];exact beq_eq_false_iff_ne.2 U,rfl,rfl,rfl,?_,hn,by rw[Nat.mul_one];exact eI⟩;rw[T0,Dh,TT h,TZ,T6,eN]
theorem ac1{m:BitVec 32}{p:Nat}{r:Do}(h:az m=p::r):aj prog 214 [aY m] (.v (.int .i64 p)):=by
 have V:=(th h).2.1;obtain⟨M,N1,Y,W,n,U,e0,q,O,H,A,u,hn,eI⟩:=Xm h;simp only[aY,e0];refine gE func214 ntmps214 results214 ?_;refine ak (L7 q O H A u @Wg eI) ?_;have eW:IntKind.i64.wrap (p:Int)=p:=bT zd zd;exact vT eW
def rB(m:BitVec 32):aa:=⟨185,1,false,[[aY m]]⟩
theorem LM(p:Nat)(l:Do):aT (p::l)=[.v (.int .i64 p)]::aT l:=rfl
theorem SA(m:BitVec 32):ur prog 213 [.ptr 0 0 1 0 0] [some (rB m)] (aT (az m)):=by
 simp only[rB,aY]
 (refine ur.enter func213 rfl zo zo rfl (λl=>?_);simp only[ntmps213,results213,afa,List.length_nil,Nat.reduceAdd,Nat.reduceSub,List.replicate_succ,List.replicate_zero,List.cons_append,List.nil_append])
 refine ae ?_
 refine uA (ι:=BitVec 32) 3 (λi=>[]) (λi=>[some (rB i)]) (λi=> .run l (aT (az i))) (λi=>(az i).length) (λ_=>True) m trivial ?_ ?_
 ·simp only[rB,aY];exact ab ar ar ar
 ·rintro i hi K hK;simp only[rB,aY]
  (revert K;refine ak @T4 ?_;intro K hK K hK)
  refine cn.part (λh=>?_) (λh=>?_)
  ·cases q:az i with
   |nil=>rw[uC q]at h;simp at h
   |cons p r=>
    have C:=ac1 q;have eY:=LM p r;have u:=PZ q;simp only[aY]at C
    (revert K;revert K;refine ae ?_;iterate 4 intro K hK)
    refine ai.one C ?_
    repeat' (first|(with_reducible first|refine bG.up ?_|refineλ(K:AK)hK=>?_|(refine hK _ ?_;clear hK K))|simp only[go_sem,eY,Ko,Dh]|clear hK K|(with_reducible refine ai.one zf ?_)|(with_reducible refine b8.one zf ?_)|(refine cn.part (λq=>?_) (λq=>?_)<;>simp only[q,go_sem,eY,Ko,Dh])|(refine cn.part (λq=>?_) (λq=>?_))|(with_reducible refine oO.mk ?_ ?_))
    ·refine aw.mk (i &&& (i-1#32)) trivial ?_ ?_
     ·rw[u,q];simp
     ·rw[u];simp only[rB,aY];exact ab ar ar ar
    ·exact .inr trivial
  ·have A:i=0#32:=by simpa using h
   subst A;simp only[nF,aT,List.map_nil]
   (revert K;revert K;refine ae ?_)
   exact .inl trivial
theorem ua(m:BitVec 32):bR prog 188 [aY m] [] (.fn 213 [] [.ptr 0 0 1 0 0]) [some (rB m)]:=by
 simp only[rB,aY];refine gF func188 ntmps188 results188 ?_;refine ae ?_;exact⟨ek,ek,ek⟩
open Go.ChangeShapes Go.WideShapes Go.ChangeAt Go.RowKit
theorem P0{P:Program}{w:World}{n:String}{d:DataW Unit}:∀(laid:List (String×DataW Unit))(ps:List MemPlace),DataW.LaidVars P w laid ps->(n,d)∈laid ->
  ∃g t cs fuel p,P.globalNamed n=some g∧(P.globals[g]?).map (·.type)=some t∧w.var? P n=some cs∧DataW.trod (λ_=>()) P w 0 (λ_=>true) false fuel t cs.toList=some (d,p)∧∀m∈MemPlace.row ⟨g,0,none⟩ cs.size,m∈ps
 | [],ps,h,u=>by cases u
 |(n',d')::r,ps,h,u=>by
  obtain⟨g,t,cs,fuel,p,q,h1,h2,h3,h4,h5,rfl⟩:=h
  rcases afZ.1 u with e|u
  ·cases e;exact⟨g,t,cs,fuel,p,h1,h2,h3,h4,λm u=>af8 _ (af8 _ u)⟩
  ·obtain⟨g',H,A,fuel',O,k1,Y,W,V,U⟩:=P0 r q h5 u;exact⟨g',H,A,fuel',O,k1,Y,W,V,λm u=>List.mem_append_right _ (U m u)⟩
theorem Gp{P:Program}{w:World}{n:String}{laid:List (String×DataW Unit)}{d:DataW Unit}{g:Nat}{T E:TypeId}{k:IntKind}{N:Nat}(vals:M2)(hm:(n,d)∈laid)(hd:d=.agg (vals.map λi=> .lit (.int k i)))(hG:P.globalNamed n=some g)(hT:(P.globals[g]?).map (·.type)=some T)(uT:P.underlying T=some (.array N E))(uE:P.underlying E=some (.int k))
  (cE:P.cellsOf E=1)(cT:P.cellsOf T=N)(hN:0<N)(hv:vals.length=N)(h:laidMet P laid w):∃t,w.heap[g]?=some (.cells (vals.map (λi=>Value.int k i)).toArray t (0,0)):=by
 obtain⟨ps,hl,hnd,hc⟩:=h;obtain⟨g0,t0,cs0,f0,p0,Y,U,q,H,V⟩:=P0 _ _ hl hm;obtain rfl:=aem (hG.symm.trans Y);obtain rfl:=aem (hT.symm.trans U);rw[hd]at H;obtain⟨xs,m,rfl,hx,hlen,hn,A⟩:=DataW.trod_array uT H
 have O:xs.map (·.1)=vals.map λi=>(DataW.lit (.int k i):DataW Unit):=by
  simp only[Prod.mk.injEq,DataW.agg.injEq]at hx;exact hx.1.symm
 rw[cT]at hlen;rw[cE]at A
 have hcs:cs0.toList=vals.map (λi=>Value.int k i):=by
  refine List.ext_getElem (by rw[hlen,List.length_map,hv]) λi h1 h2=>?_
  have hi:i<N:=zd
  have e1:=A i hi;rw[Nat.mul_one,af7 h1,List.take_succ_cons,List.take_zero]at e1
  have u:i<xs.length:=zd
  rw[aeC u]at e1;obtain⟨n,k1,k2,_⟩:=DataW.trod_int uE e1
  have e2:(xs.map (·.1))[i]?=(vals.map λi=>(DataW.lit (.int k i):DataW Unit))[i]? :=by rw[O]
  have W:i<vals.length:=zd
  rw[List.getElem?_map,List.getElem?_map,aeC u,aeC W,k2]at e2;simp only[Option.map_some,aez,DataW.lit.injEq,Lit.int.injEq,true_and]at e2;rw[List.getElem_map, <- e2];exact(List.cons.inj k1).1
 obtain⟨⟨c,t,hb⟩,_⟩:=hc g 0 (V _ (by
  rw[MemPlace.row,List.mem_map];refine⟨0,?_,rfl⟩
  rw[List.mem_range, <- Array.length_toList,hlen];exact hN))
 simp only[World.var?,hG,Option.bind_some,hb,aez]at q;refine⟨t,?_⟩;rw[hb,q, <- hcs,Array.toArray_toList]
def aat:M2:=[1,10,100,1000,10000,100000,1000000,10000000,100000000,1000000000,10000000000,100000000000,1000000000000,10000000000000,100000000000000,1000000000000000,10000000000000000,100000000000000000,1000000000000000000,10000000000000000000]
theorem L8{w:World}(h:laidMetH prog [("math/bits.deBruijn32tab",Rows.laid_math_bits_deBruijn32tab),("math/bits.deBruijn64tab",Rows.laid_math_bits_deBruijn64tab),("internal/strconv.uint64pow10",Rows.laid_internal_strconv_uint64pow10)] w):gH (λ_=>True) (λ_ _=>Go.undef) [] w:=by
 rw[MakeChecks.laidMetH_plain _ _ _ zo]at h
 have A:=Gp (P:=prog) (g:=0) (T:=301) (E:=5) (k:= .u8) (N:=32) (n:= "math/bits.deBruijn32tab") Gn (List.mem_cons_self) rfl zo zo zo zo zo zo zs rfl h
 have u:=Gp (P:=prog) (g:=1) (T:=311) (E:=256) (k:= .u64) (N:=20) (n:= "internal/strconv.uint64pow10") aat (ae7 _ (ae7 _ List.mem_cons_self)) rfl zo zo zo zo zo zo zs rfl h
 intro g T cs q;unfold AI at q;refine⟨?_,yV _ _,trivial⟩
 split at q
 ·rename_i e;obtain⟨-,rfl⟩:=Prod.mk.inj (aem q);subst e;exact A
 ·split at q
  ·rename_i e;obtain⟨-,rfl⟩:=Prod.mk.inj (aem q);subst e;exact u
  ·cases q
abbrev fV:=Int×Int
abbrev LT:=List fV
def gW(a b:fV):Bool:=decide (a.1<b.1)||(decide (a.1=b.1)&&decide (a.2<b.2))
def aX(l:LT)(i:Nat):fV:=l.getD i (0,0)
theorem lF{a b:fV}:gW a b=true↔a.1<b.1∨a.1=b.1∧a.2<b.2:=by simp[gW]
theorem nQ{a b c:fV}(h:gW b a=false)(k:gW c b=false):gW c a=false:=by
 rw[<-ae1,lF]at *; omega
theorem jL{a b:fV}(h:gW a b=true):gW b a=false:=by
 rw[<-ae1,lF];grind[lF]
theorem j9(a:fV):gW a a=false:=by
 rw[<-ae1,lF];omega
def swp(l:LT)(i j:Nat):LT:=(l.set i (aX l j)).set j (aX l i)
theorem ju(l:LT)(i j:Nat):(swp l i j).length=l.length:=by simp[swp]
theorem s8{l:LT}{i:Nat}(h:i<l.length):aX l i=l[i]:=by simp[aX,h]
theorem Gk{l:LT}{i j:Nat}(hi:i<l.length)(q:j<l.length):(swp l i j).Perm l:=by
 grind[swp,s8,List.set_set_perm]
theorem qa{l:LT}{i j k:Nat}(hi:i<l.length)(q:j<l.length):aX (swp l i j) k=if k=j then aX l i else if k=i then aX l j else aX l k:=by
 simp only[aX,swp,ae2,List.getElem?_set,List.length_set]
 grind
def nt(l:LT):Prop:=∀i,0<i->i<l.length->gW (aX l i) (aX l ((i-1) / 2))=false
def pV:Nat->LT->Nat->LT
 |0,l,_=>l
 |n+1,l,k=>if k=0 then l else if gW (aX l k) (aX l ((k-1) / 2))then pV n (swp l k ((k-1) / 2)) ((k-1) / 2)else l
theorem r9:∀(n:Nat)(l:LT)(k:Nat),k<l.length->(pV n l k).Perm l
 |0,l,k,_=> .refl _
 |n+1,l,k,h=>by
  rw[pV]
  split
  ·exact .refl _
  ·split
   ·exact(r9 n _ _ (by rw[ju];omega)).trans (Gk h zd)
   ·exact .refl _
structure VZ(l:LT)(k:Nat):Prop where
 lt:k<l.length
 all:∀i,0<i->i<l.length->i≠k->gW (aX l i) (aX l ((i-1) / 2))=false
 up:∀i,0<i->i<l.length->(i-1) / 2=k->0<k->gW (aX l i) (aX l ((k-1) / 2))=false
theorem F6:∀(n:Nat)(l:LT)(k:Nat),k<=n->VZ l k->nt (pV n l k)
 |0,l,k,hn,h=>by
  obtain rfl:k=0:=zd
  exactλi u hi=>h.all i u hi zd
 |n+1,l,k,hn,h=>by
  rw[pV]
  split
  ·rename_i hk;exactλi u hi=>h.all i u hi zd
  ·rename_i hk;have hl:=h.lt
   have A:(k-1) / 2<l.length:=zd
   split
   ·rename_i hlt
    refine F6 n _ _ zd ⟨by grind[ju],λi u hi O=>?_,λi u hi Y U=>?_⟩
    ·rw[ju]at hi;rw[qa hl A,qa hl A,if_neg O]
     by_cases q:i=k
     ·subst q;rw[if_pos rfl,if_pos rfl];exact jL hlt
     ·rw[if_neg q]
      by_cases V:(i-1) / 2=(k-1) / 2
      ·rw[if_pos V];have H:=h.all i u hi q
       grind[nQ,jL]
      ·rw[if_neg V]
       by_cases H:(i-1) / 2=k
       ·rw[if_pos H];exact h.up i u hi H zd
       ·rw[if_neg H];exact h.all i u hi q
    ·rw[ju]at hi;have W:=h.all ((k-1) / 2) U A zd;rw[qa hl A,qa hl A,if_neg zd,if_neg (show ¬((k-1) / 2-1) / 2=(k-1) / 2 by omega),if_neg (show ¬((k-1) / 2-1) / 2=k by omega)]
     by_cases q:i=k
     ·grind
     ·rw[if_neg q];have H:=h.all i u hi q
      grind[nQ]
   ·rename_i hlt;intro i u hi
    by_cases q:i=k
    ·grind
    ·exact h.all i u hi q
def mS(l:LT)(x:fV):LT:=pV l.length (l++[x]) l.length
theorem Fk{l m:LT}{i:Nat}(h:i<l.length):aX (l++m) i=aX l i:=by
 simp[aX,List.getElem?_append_left h]
theorem jN(l:LT)(x:fV):(mS l x).Perm (l++[x]):=r9 _ _ _ zk
theorem Qz{l:LT}{x:fV}(h:nt l):nt (mS l x):=by
 refine F6 _ _ _ (Nat.le_refl _) ⟨zk,λi q hi u=>?_,λi q hi H A=>?_⟩
 ·simp only[List.length_append,afa,List.length_nil]at hi;rw[Fk zd,Fk zd];exact h i q zd
 grind
def ew(l:LT)(k:Nat):Nat:=
 let a:=if 2*k+1<l.length∧gW (aX l (2*k+1)) (aX l k)=true then 2*k+1 else k
 if 2*k+2<l.length∧gW (aX l (2*k+2)) (aX l a)=true then 2*k+2 else a
theorem pK(l:LT)(k:Nat)(O:k<l.length):(ew l k=k∨ew l k=2*k+1∨ew l k=2*k+2)∧ew l k<l.length∧gW (aX l k) (aX l (ew l k))=false∧(ew l k≠k->gW (aX l (ew l k)) (aX l k)=true) ∧
  (∀i,0<i->i<l.length->(i-1) / 2=k->gW (aX l i) (aX l (ew l k))=false):=by
 have key:∀i,0<i->(i-1) / 2=k->i=2*k+1∨i=2*k+2:=λi A h=>zd
 unfold ew
 by_cases u:2*k+1<l.length∧gW (aX l (2*k+1)) (aX l k)=true
 ·simp only[if_pos u]
  by_cases q:2*k+2<l.length∧gW (aX l (2*k+2)) (aX l (2*k+1))=true
  ·rw[if_pos q]
   grind[jL,lF,j9]
  ·rw[if_neg q];refine⟨.inr (.inl rfl),u.1,jL u.2,λ_=>u.2,λi A hi H=>?_⟩
   rcases key i A H with rfl|rfl
   ·exact j9 _
   grind
 ·simp only[if_neg u]
  by_cases q:2*k+2<l.length∧gW (aX l (2*k+2)) (aX l k)=true
  ·rw[if_pos q];refine⟨.inr (.inr rfl),q.1,jL q.2,λ_=>q.2,λi A hi H=>?_⟩
   rcases key i A H with rfl|rfl
   ·rw[not_and]at u
    grind[nQ,jL]
   grind[j9]
  ·rw[if_neg q];refine⟨.inl rfl,O,j9 _,λh=>absurd rfl h,λi A hi H=>?_⟩
   grind
def nc:Nat->LT->Nat->LT
 |0,l,_=>l
 |n+1,l,k=>if ew l k=k then l else nc n (swp l k (ew l k)) (ew l k)
theorem sc:∀(n:Nat)(l:LT)(k:Nat),k<l.length->(nc n l k).Perm l
 |0,l,k,_=> .refl _
 |n+1,l,k,h=>by
  rw[nc];have q:=pK l k h
  split
  ·exact .refl _
  ·exact(sc n _ _ (by rw[ju];exact q.2.1)).trans (Gk h q.2.1)
structure V0(l:LT)(k:Nat):Prop where
 lt:k<l.length
 all:∀i,0<i->i<l.length->(i-1) / 2≠k->gW (aX l i) (aX l ((i-1) / 2))=false
 up:∀i,0<i->i<l.length->(i-1) / 2=k->0<k->gW (aX l i) (aX l ((k-1) / 2))=false
theorem Gf:∀(n:Nat)(l:LT)(k:Nat),l.length<=n+k->V0 l k->nt (nc n l k)
 |0,l,k,hn,h=>by have:=h.lt;omega
 |n+1,l,k,hn,h=>by
  rw[nc];have hl:=h.lt;obtain⟨s1,s2,Y,H,W⟩:=pK l k hl
  split
  ·rename_i he;intro i A hi
   by_cases O:(i-1) / 2=k
   ·grind
   ·exact h.all i A hi O
  ·rename_i hne;have H:=H hne;generalize ew l k=m at s1 s2 Y H W hne⊢
   refine Gf n _ _ (by grind[ju]) ⟨by grind[ju],λi A hi O=>?_,λi A hi he hm0=>?_⟩
   ·rw[ju]at hi;rw[qa hl s2,qa hl s2,if_neg O]
    by_cases V:i=m
    ·grind
    ·rw[if_neg V]
     by_cases u:i=k
     ·rw[if_pos u]
      have q:(i-1) / 2≠k:=zd
      rw[if_neg q];have hu:=h.up m zd s2 zd zd
      grind
     ·rw[if_neg u]
      by_cases q:(i-1) / 2=k
      ·grind
      ·rw[if_neg q];exact h.all i A hi q
   ·rw[ju]at hi;rw[qa hl s2,qa hl s2,if_neg (show ¬i=m by omega),if_neg (show ¬i=k by omega)]
    have U:(m-1) / 2=k:=zd
    rw[U,if_neg (show ¬k=m by omega),if_pos rfl]
    have:=h.all i A hi zd
    grind
def pd(l:LT):LT:=nc (l.length-1) ((l.set 0 (aX l (l.length-1))).take (l.length-1)) 0
theorem AW{l:LT}{n i:Nat}(h:i<n):aX (l.take n) i=aX l i:=by
 simp[aX,ae2,List.getElem?_take,h]
theorem Fl{l:LT}{x:fV}{i j:Nat}(h:i≠j):aX (l.set i x) j=aX l j:=by
 simp[aX,ae2,List.getElem?_set_ne h]
theorem FQ{l:LT}(h:l.length=1):pd l=[]:=by
 obtain⟨a,rfl⟩:=List.length_eq_one_iff.1 h;simp[pd,nc,ew]
theorem Bg{l:LT}(h:l≠[]):(aX l 0::pd l).Perm l:=by
 cases l with
 |nil=>grind
 |cons a l=>
  by_cases hl:l=[]
  ·subst hl;rw[FQ rfl];exact .refl _
  ·have e:((a::l).set 0 (aX (a::l) ((a::l).length-1))).take ((a::l).length-1)=l.getLast hl::l.dropLast:=by
    have A:0<l.length:=List.length_pos_iff.2 hl
    have u:aX (a::l) ((a::l).length-1)=l.getLast hl:=by
     rw[s8 zk,List.getLast_eq_getElem]
     grind
    rw[u,List.set_cons_zero];obtain⟨m,H⟩:∃m,l.length=m+1:=⟨l.length-1,zd⟩;simp only[afa,Nat.add_one_sub_one]
    grind[List.dropLast_eq_take]
   rw[pd,e];have q:aX (a::l) 0=a:=rfl;rw[q];refine .cons a ((sc _ _ 0 zk).trans ?_)
   grind[List.dropLast_concat_getLast,List.perm_append_comm]
theorem Ky{l:LT}(h:nt l):nt (pd l):=by
 by_cases hl:l.length<=1
 ·have:pd l=[]:=by
   rcases aes l.length 1 with q|q
   ·have:l=[]:=List.length_eq_zero_iff.1 zd
    subst this;rfl
   grind[FQ]
  rw[this];exactλi _ h=>by simp at h
 ·have e:((l.set 0 (aX l (l.length-1))).take (l.length-1)).length=l.length-1:=zk
  refine Gf _ _ 0 (by rw[e];omega) ⟨by rw[e];omega,λi u hi A=>?_,λi u hi O H=>zd⟩;rw[e]at hi;rw[AW hi,AW zd,Fl zd,Fl zd];exact h i u zd
theorem y6{l:LT}(h:l≠[]):(pd l).length+1=l.length:=by
 have:=(Bg h).length_eq
 omega
theorem Iq{l:LT}(h:nt l):∀i,i<l.length->gW (aX l i) (aX l 0)=false:=by
 intro i
 induction i using Nat.strongRecOn with
 |_ i ih=>
  intro hi
  by_cases q:i=0
  ·grind[j9]
  ·exact nQ (ih ((i-1) / 2) zd zd) (h i zd hi)
theorem Ir{l:LT}(h:nt l){x:fV}(q:x∈l):gW x (aX l 0)=false:=by
 obtain⟨i,hi,rfl⟩:=List.getElem_of_mem q
 have:=Iq h i hi
 grind[s8]
end
instance:LawfulBEq ByteArray where
 eq_of_beq h:=(af9 _ _).1 h
 rfl:=(af9 _ _).2 rfl
section
variable {K:Type} [DecidableEq K]
def bU:List (K×Int)->K->Option Int
 | [],_=>none
 |p::l,k=>if p.1=k then some p.2 else bU l k
def gP:List (K×Int)->K->Int->List (K×Int)
 | [],k,t=>[(k,t)]
 |p::l,k,t=>if p.1=k then(k,t)::l else p::gP l k t
def dW(l:List (K×Int))(k:K)(t:Int):Bool:=match bU l k with
 |some nZ=>decide (nZ<t)
 |none=>true
def gb(l:List (K×Int))(k:K)(t:Int):List (K×Int):=if dW l k t then gP l k t else l
theorem j5:∀(l:List (K×Int))(k:K)(t:Int)(j:K),bU (gP l k t) j=if k=j then some t else bU l j
 | [],k,t,j=>by grind[gP,bU]
 |p::l,k,t,j=>by
  rw[gP]
  by_cases h:p.1=k
  ·rw[if_pos h,bU,bU]
   grind
  ·rw[if_neg h,bU,bU,j5 l k t j]
   grind
theorem uB:∀(l:List (K×Int))(k:K)(t:Int),(gP l k t).map Prod.fst=if k∈l.map Prod.fst then l.map Prod.fst else l.map Prod.fst++[k]
 | [],k,t=>by simp[gP]
 |p::l,k,t=>by
  rw[gP]
  by_cases h:p.1=k
  ·grind
  ·rw[if_neg h,aga,uB l k t]
   grind
theorem wS{l:List (K×Int)}(k:K)(t:Int)(h:(l.map Prod.fst).Nodup):((gP l k t).map Prod.fst).Nodup:=by
 grind[uB,List.nodup_append]
theorem SX{l:List (K×Int)}(k:K)(t:Int)(h:(l.map Prod.fst).Nodup):((gb l k t).map Prod.fst).Nodup:=by
 grind[gb,wS]
theorem j4:∀{l:List (K×Int)}{k:K}{t:Int},(l.map Prod.fst).Nodup->(bU l k=some t↔(k,t)∈l)
 | [],k,t,_=>by simp[bU]
 |p::l,k,t,h=>by
  rw[aga,agb]at h;rw[bU]
  by_cases q:p.1=k
  ·grind
  ·rw[if_neg q,j4 h.2]
   grind
theorem Ew(l:List (K×Int))(k:K)(t:Int)(j:K):bU (gb l k t) j=if k=j then some (match bU l k with|some nZ=>max nZ t|none=>t)else bU l j:=by
 rw[gb,dW]
 by_cases q:k=j
 ·subst q;rw[if_pos rfl]
  cases h:bU l k with
  |none=>simp only[if_true];rw[j5,if_pos rfl]
  |some nZ=>
   simp only[decide_eq_true_eq]
   split
   ·rename_i hlt;rw[j5,if_pos rfl];grind
   grind
 ·rw[if_neg q]
  cases h:bU l k with
  |none=>simp only[if_true];rw[j5,if_neg q]
  |some nZ=>
   simp only
   split
   ·rw[j5,if_neg q]
   ·rfl
end
structure uh where
 key:ByteArray
 val:Ef
abbrev Rd:=List uh
structure bH where
 bP:ByteArray
 to:ByteArray
 label:ByteArray
 time:Int
 props:Rd
abbrev Id:=List bH
abbrev Nd:=ByteArray×Nat
abbrev T1:=List Nd
abbrev L1:=List (Nd×Int)
def kU(E:Id)(v:ByteArray):Id:=E.filter (λe=>decide (e.bP=v))
theorem kn{E:Id}{v:ByteArray}{e:bH}:e∈kU E v↔e∈E∧e.bP=v:=by simp[kU]
section
variable (st:Nat->ByteArray->Option Nat)
inductive DZ(E:Id)(τ:Int)(root:ByteArray):ByteArray->Nat->Prop where
 |one (e:bH) (s:Nat):e∈E->τ<=e.time->e.bP=root->st 0 e.label=some s->DZ E τ root e.to s
 |more (e:bH) (s t:Nat):DZ E τ root e.bP s->e∈E->τ<=e.time->st s e.label=some t->DZ E τ root e.to t
structure DS where
 known:L1
 nodes:T1
 heap:LT
def wL(a:Nd)(time:Int)(S:DS)(e:bH):DS:=match st a.2 e.label with
 |none=>S
 |some t=>if dW S.known (e.to,t) (min time e.time)then⟨gP S.known (e.to,t) (min time e.time),S.nodes++[(e.to,t)],mS S.heap (-(min time e.time),(S.nodes.length:Int))⟩else S
def pf(E:Id)(a:Nd)(time:Int)(S:DS):DS:=(kU E a.1).foldl (wL st a time) S
end
section
variable {st:Nat->ByteArray->Option Nat} {E:Id} {root:ByteArray}
theorem DZ.less{τ σ:Int}(h:σ<=τ){v:ByteArray}{s:Nat}(k:DZ st E τ root v s):DZ st E σ root v s:=by
 induction k with
 |one e s u H q A=>exact .one e s u zd q A
 |more e s t _ u H q ih=>exact .more e s t ih u zd q
def K9(S S':DS):Prop:=∀n τ,bU S.known n=some τ->∃τ',bU S'.known n=some τ'∧τ<=τ'
theorem K9.refl(S:DS):K9 S S:=λn τ h=>⟨τ,h,Int.le_refl _⟩
theorem K9.trans{S q S'':DS}(h:K9 S q)(k:K9 q S''):K9 S S'':=λn τ hn=>by
 obtain⟨a,u,O⟩:=h n τ hn;obtain⟨b,H,A⟩:=k n a u
 grind
structure DC(st:Nat->ByteArray->Option Nat)(E:Id)(root:ByteArray)(S:DS)(done:L1):Prop where
 ok:nt S.heap
 nd:(S.known.map Prod.fst).Nodup
 jw:∀n τ,bU S.known n=some τ->DZ st E τ root n.1 n.2
 Za:∀x∈S.heap,∃(i:Nat)(n:Nd)(τ:Int),x.2=(i:Int)∧S.nodes[i]?=some n∧bU S.known n=some τ∧ -x.1<=τ
 due:∀n τ,bU S.known n=some τ->(n,τ)∈done∨∃i:Nat,(-τ,(i:Int))∈S.heap∧S.nodes[i]?=some n
 YR:∀p∈done,bU S.known p.1=some p.2
 low:∀p∈done,∀x∈S.heap, -x.1<=p.2
theorem Ev{S:DS}{n:Nd}{m:Int}(h:dW S.known n m=false):∃τ,bU S.known n=some τ∧m<=τ:=by
 unfold dW at h
 grind
theorem xM{S:DS}{n:Nd}{m τ:Int}(h:dW S.known n m=true)(k:bU S.known n=some τ):τ<m:=by
 grind[dW]
theorem UC{S:DS}{done:L1}(h:DC st E root S done){a:Nd}{time:Int}{e:bH}(hw:∀t,st a.2 e.label=some t->DZ st E (min time e.time) root e.to t)(hd:∀p∈done,time<=p.2) :
  DC st E root (wL st a time S e) done∧K9 S (wL st a time S e)∧(∀t,st a.2 e.label=some t->∃τ,bU (wL st a time S e).known (e.to,t)=some τ∧min time e.time<=τ) ∧
  (wL st a time S e).nodes.length<=S.nodes.length+1∧(wL st a time S e).heap.length<=S.heap.length+1∧(∃m,(wL st a time S e).nodes=S.nodes++m∧∀n∈m,∃s,n=(e.to,s)∧st a.2 e.label=some s):=by
 unfold wL
 cases hs:st a.2 e.label with
 |none=>exact⟨h,.refl _,λt U=>(by cases U),zk,zk,[],zk,λn hn=>by cases hn⟩
 |some t=>
  simp only;have hwt:=hw t hs;generalize hm:min time e.time=m at *
  cases Y:dW S.known (e.to,t) m with
  |false=>
   simp only[Bool.false_eq_true,if_false];exact⟨h,.refl _,λt' U=>by grind[Ev],zd,zd,[],zk,λn hn=>by cases hn⟩
  |true=>
   simp only[if_true]
   have O:∀j,bU (gP S.known (e.to,t) m) j=if(e.to,t)=j then some m else bU S.known j:=j5 _ _ _
   have W:K9 S ⟨gP S.known (e.to,t) m,S.nodes++[(e.to,t)],mS S.heap (-m,(S.nodes.length:Int))⟩:=λn τ hn=>by
    show ∃τ',bU (gP S.known (e.to,t) m) n=some τ'∧τ<=τ';rw[O]
    by_cases q:(e.to,t)=n
    ·rw[if_pos q];rw[<-q]at hn
     have:=xM Y hn
     grind
    grind
   have u:∀x,x∈mS S.heap (-m,(S.nodes.length:Int))↔x∈S.heap∨x=(-m,(S.nodes.length:Int)):=λx=>by
    grind[jN]
   refine⟨⟨Qz h.ok,wS _ _ h.nd,λn τ hn=>?_,λx A=>?_,λn τ hn=>?_,λp V=>?_,λp V x A=>?_⟩,W,λt' U=>?_,zk,?_,[(e.to,t)],rfl,λn hn=>⟨t,by grind,rfl⟩⟩
   ·rw[O]at hn
    by_cases q:(e.to,t)=n
    ·grind
    ·rw[if_neg q]at hn;exact h.jw n τ hn
   ·rcases(u x).1 A with A|rfl
    ·obtain⟨i,n,τ,H,h2,h3,h4⟩:=h.Za x A;obtain⟨τ',h5,h6⟩:=W n τ h3
     grind
    ·refine⟨S.nodes.length,(e.to,t),m,rfl,List.getElem?_concat_length,?_,zk⟩
     grind
   ·rw[O]at hn
    by_cases q:(e.to,t)=n
    ·grind
    ·rw[if_neg q]at hn
     rcases h.due n τ hn with H|⟨i,H,h2⟩
     ·exact .inl H
     grind
   ·have H:=h.YR p V;show bU (gP S.known (e.to,t) m) p.1=some p.2
    rw[O,if_neg λq=>?_]
    ·exact H
    ·rw[<-q]at H
     have:=xM Y H
     grind
   ·rcases(u x).1 A with A|rfl
    ·exact h.low p V x A
    grind
   ·simp_all
   ·have:=(jN S.heap (-m,(S.nodes.length:Int))).length_eq
    grind
theorem yi{a:Nd}{time:Int}{done:L1}(W:∀p∈done,time<=p.2):∀(l:Id)(S:DS),DC st E root S done->(∀e∈l,∀t,st a.2 e.label=some t->DZ st E (min time e.time) root e.to t) ->
  DC st E root (l.foldl (wL st a time) S) done∧K9 S (l.foldl (wL st a time) S)∧(∀e∈l,∀t,st a.2 e.label=some t->∃τ,bU (l.foldl (wL st a time) S).known (e.to,t)=some τ∧min time e.time<=τ) ∧
  (l.foldl (wL st a time) S).nodes.length<=S.nodes.length+l.length∧(l.foldl (wL st a time) S).heap.length<=S.heap.length+l.length∧(∃m,(l.foldl (wL st a time) S).nodes=S.nodes++m∧∀n∈m,∃e∈l,∃s,n=(e.to,s)∧st a.2 e.label=some s)
 | [],S,h,_=>⟨h,K9.refl S,λe q=>absurd q agc,zk,zk,[],zk,λn hn=>absurd hn agc⟩
 |e::l,S,h,U=>by
  obtain⟨h1,h2,h3,h4,h5,m1,h6,h7⟩:=UC h (a:=a) (time:=time) (e:=e) (U e afr) W;obtain⟨k1,O,k3,k4,k5,m2,k6,k7⟩:=yi W l (wL st a time S e) h1 (λA q=>U A (ae7 _ q));simp only[List.foldl_cons,afa]
  refine⟨k1,h2.trans O,λA q t V=>?_,zd,zd,m1++m2,by rw[k6,h6,List.append_assoc],λn hn=>?_⟩
  ·rcases afZ.1 q with rfl|q
   ·obtain⟨τ,u,H⟩:=h3 t V;obtain⟨τ',Y,q4⟩:=O _ _ u;exact⟨τ',Y,zd⟩
   ·exact k3 A q t V
  ·rcases agd.1 hn with hn|hn
   ·obtain⟨s,u,H⟩:=h7 n hn;exact⟨e,afr,s,u,H⟩
   ·obtain⟨A,q,s,u,H⟩:=k7 n hn;exact⟨A,ae7 _ q,s,u,H⟩
def NV(st:Nat->ByteArray->Option Nat)(E:Id)(S:DS)(done:L1):Prop:=∀p∈done,∀e∈E,e.bP=p.1.1->∀t,st p.1.2 e.label=some t->∃τ,bU S.known (e.to,t)=some τ∧min p.2 e.time<=τ
theorem NV.keep{S q:DS}{done:L1}(h:NV st E S done)(k:K9 S q):NV st E q done:=λp A e O H t u=>by
 obtain⟨τ,U,Y⟩:=h p A e O H t u;obtain⟨τ',W,V⟩:=k _ _ U
 grind
def DS.pop(S:DS):DS:=⟨S.known,S.nodes,pd S.heap⟩
theorem jS{S:DS}(h:S.heap≠[]){x:fV}:x∈S.heap↔x=aX S.heap 0∨x∈S.pop.heap:=by
 have:=(Bg h).mem_iff (a:=x)
 rw[afZ]at this;exact this.symm
theorem Qv{S:DS}{done:L1}(h:DC st E root S done)(q:S.heap≠[]){i:Nat}{n:Nd}(hi:(aX S.heap 0).2=(i:Int))(hn:S.nodes[i]?=some n)(Y:n∈done.map Prod.fst):DC st E root S.pop done:=by
 obtain⟨⟨n',τd⟩,H,rfl⟩:=List.mem_map.1 Y;refine⟨Ky h.ok,h.nd,h.jw,λx A=>h.Za x ((jS q).2 (.inr A)),λm τ U=>?_,h.YR,λp H x A=>h.low p H x ((jS q).2 (.inr A))⟩
 rcases h.due m τ U with u|⟨j,u,V⟩
 ·exact .inl u
 ·rcases(jS q).1 u with e|u
  ·left;rw[<-e]at hi
   have O:i=j:=zd
   rw[O,V]at hn;simp only[Option.some.injEq]at hn;subst hn
   have:=h.YR _ H
   have W:bU S.known m=some τ:=U
   grind
  ·exact .inr ⟨j,u,V⟩
theorem Up{S:DS}{done:L1}(h:DC st E root S done)(H:S.heap≠[]){i:Nat}{n:Nd}(hi:(aX S.heap 0).2=(i:Int))(hn:S.nodes[i]?=some n)(hd:n∉done.map Prod.fst) :
  bU S.known n=some (-(aX S.heap 0).1)∧(∀p∈done, -(aX S.heap 0).1<=p.2)∧DC st E root S.pop (done++[(n, -(aX S.heap 0).1)]):=by
 have u:aX S.heap 0∈S.heap:=(jS H).2 (.inl rfl);have hleast:=λx(O:x∈S.heap)=>Ir h.ok O;generalize hx0:aX S.heap 0=V at u hleast hi⊢;obtain⟨j,n',τ,h1,h2,h3,h4⟩:=h.Za V u
 have Y:i=j:=zd
 subst Y;rw[hn]at h2;cases h2
 have hle:∀x∈S.heap, -x.1 <= -V.1:=λx O=>by
  have:=hleast x O
  rw[<-Bool.not_eq_true,lF]at this;omega
 have hτ:τ = -V.1:=by
  rcases h.due n τ h3 with q|⟨k,W,q2⟩
  ·grind
  grind
 subst hτ;have U:=λp A=>h.low p A V u
 refine⟨h3,U,Ky h.ok,h.nd,h.jw,λx O=>h.Za x ((jS H).2 (.inr O)),λm τ hm=>?_,λp A=>?_,λp A x O=>?_⟩
 ·rcases h.due m τ hm with q|⟨k,W,q2⟩
  ·grind
  ·rcases(jS H).1 W with e|W
   ·grind
   ·exact .inr ⟨k,W,q2⟩
 ·rcases agd.1 A with A|A
  ·exact h.YR p A
  ·rw[age.1 A];exact h3
 grind[jS,age]
def jC(st:Nat->ByteArray->Option Nat)(E:Id):Nat->DS->T1->L1
 |0,_,_=>[]
 |f+1,S,done=>if S.heap=[]then []else match S.nodes[(aX S.heap 0).2.toNat]? with
  |none=>[]
  |some n=>if n∈done then jC st E f S.pop done else(n, -(aX S.heap 0).1)::jC st E f (pf st E n (-(aX S.heap 0).1) S.pop) (done++[n])
structure DL(st:Nat->ByteArray->Option Nat)(E:Id)(root:ByteArray)(cand:T1)(f:Nat)(S:DS)(done:L1):Prop extends DC st E root S done where
 out:NV st E S done
 dnd:(done.map Prod.fst).Nodup
 sub:∀n∈S.nodes,n∈cand
 sdn:∀n∈done.map Prod.fst,n∈cand
 fuel:S.heap.length+(cand.length-done.length)*(E.length+1)<=f
 len:S.nodes.length<=(done.length+1)*E.length
theorem Kq{l m:T1}(h:l.Nodup)(q:∀x∈l,x∈m):l.length<=m.length:=by
 induction l generalizing m with
 |nil=>simp
 |cons a l ih=>
  rw[agb]at h;have A:=q a afr
  have:=ih (m:=m.erase a) h.2 λx u=>(List.mem_erase_of_ne (λe=>by grind)).2 (q x (ae7 _ u))
  grind
theorem xe(E:Id)(v:ByteArray):(kU E v).length<=E.length:=List.length_filter_le _ _
theorem DL.next{cand:T1}{f:Nat}{S:DS}{done:L1}(hc:∀e∈E,∀s t,st s e.label=some t->(e.to,t)∈cand)(h:DL st E root cand f S done)(q:S.heap≠[]):∃(i:Nat)(n:Nd)(f':Nat),f=f'+1∧(aX S.heap 0).2=(i:Int)∧S.nodes[i]?=some n ∧
  (n∈done.map Prod.fst->DL st E root cand f' S.pop done)∧(n∉done.map Prod.fst->DL st E root cand f' (pf st E n (-(aX S.heap 0).1) S.pop) (done++[(n, -(aX S.heap 0).1)])∧K9 S (pf st E n (-(aX S.heap 0).1) S.pop)):=by
 have O:aX S.heap 0∈S.heap:=(jS q).2 (.inl rfl);obtain⟨i,n,τ,h1,h2,h3,h4⟩:=h.Za _ O;have hpl:=y6 q;have hfu:=h.fuel;have hpos:0<S.heap.length:=List.length_pos_iff.2 q
 refine⟨i,n,f-1,zd,h1,h2,λhd=>?_,λhd=>?_⟩
 ·refine⟨Qv h.toDC q h1 h2 hd,h.out,h.dnd,h.sub,h.sdn,?_,h.len⟩;show(pd S.heap).length+_<=_;omega
 ·obtain⟨p1,p2,p3⟩:=Up h.toDC q h1 h2 hd;have hwn:=h.jw n _ p1;generalize hτ: -(aX S.heap 0).1=σ at *;have hnc:n∈cand:=h.sub n (List.mem_of_getElem? h2)
  have W:(done++[(n,σ)]).map Prod.fst=done.map Prod.fst++[n]:=zk
  have V:((done++[(n,σ)]).map Prod.fst).Nodup:=by
   rw[W,List.nodup_append];exact⟨h.dnd,zk,λa ha b hb e=>hd (by grind)⟩
  have H:∀m∈(done++[(n,σ)]).map Prod.fst,m∈cand:=λm U=>by
   rw[W]at U
   rcases agd.1 U with U|U
   ·exact h.sdn m U
   grind
  have hlen:=Kq V H;simp only[List.length_map,aew,afa,aeq]at hlen
  have hle:∀p∈done++[(n,σ)],σ<=p.2:=λp u=>by
   grind
  obtain⟨k1,k2,k3,k4,k5,m,k6,k7⟩:=yi (st:=st) (E:=E) (root:=root) (a:=n) (time:=σ) hle (kU E n.1) S.pop p3 (λe he t Y=>by
   obtain⟨e1,e2⟩:=kn.1 he
   have e3:DZ st E (min σ e.time) root e.bP n.2:=by rw[e2];exact hwn.less zd
   exact .more e n.2 t e3 e1 zd Y)
  have hol:=xe E n.1
  refine⟨⟨k1,λp u e he hf t Y=>?_,V,λx A=>?_,H,?_,?_⟩,λa b c=>k2 a b c⟩
  ·rcases agd.1 u with u|u
   ·exact(NV.keep (S:=S) h.out (λa b c=>k2 a b c)) p u e he hf t Y
   ·obtain rfl:=age.1 u;exact k3 e (kn.2 ⟨he,hf⟩) t Y
  ·rw[pf,k6]at A
   rcases agd.1 A with A|A
   ·exact h.sub x A
   grind[kn]
  ·have e1:(pf st E n σ S.pop).heap.length<=(pd S.heap).length+E.length:=by
    have:(pf st E n σ S.pop).heap.length<=(pd S.heap).length+(kU E n.1).length:=k5
    omega
   simp only[aew,afa,aeq]
   have e2:cand.length-done.length=(cand.length-(done.length+1))+1:=zd
   rw[e2,Nat.add_mul,Nat.one_mul]at hfu
   grind
  ·have e1:(pf st E n σ S.pop).nodes.length<=S.nodes.length+(kU E n.1).length:=k4;have e2:=h.len;simp only[aew,afa,aeq,Nat.zero_add]
   grind
theorem xV(f:Nat){S:DS}(done:T1)(h:S.heap=[]):jC st E f S done=[]:=by
 cases f<;>simp[jC,h]
theorem Ay{f i:Nat}{S:DS}{done:T1}{n:Nd}(h:S.heap≠[])(hi:(aX S.heap 0).2=(i:Int))(hn:S.nodes[i]?=some n)(q:n∈done):jC st E (f+1) S done=jC st E f S.pop done:=by
 rw[jC,if_neg h,hi,Int.toNat_natCast,hn];simp[q]
theorem Ax{f i:Nat}{S:DS}{done:T1}{n:Nd}(h:S.heap≠[])(hi:(aX S.heap 0).2=(i:Int))(hn:S.nodes[i]?=some n)(q:n∉done):jC st E (f+1) S done=(n, -(aX S.heap 0).1)::jC st E f (pf st E n (-(aX S.heap 0).1) S.pop) (done++[n]):=by
 rw[jC,if_neg h,hi,Int.toNat_natCast,hn];simp[q]
structure rh(st:Nat->ByteArray->Option Nat)(E:Id)(root:ByteArray)(Y:L1):Prop where
 nd:(Y.map Prod.fst).Nodup
 jw:∀p∈Y,DZ st E p.2 root p.1.1 p.1.2
 all:∀τ v s,DZ st E τ root v s->∃σ,((v,s),σ)∈Y∧τ<=σ
def Ai(st:Nat->ByteArray->Option Nat)(E:Id)(root:ByteArray)(S:DS):Prop:=∀e∈E,e.bP=root->∀t,st 0 e.label=some t->∃τ,bU S.known (e.to,t)=some τ∧e.time<=τ
theorem Ai.keep{S q:DS}(h:Ai st E root S)(k:K9 S q):Ai st E root q:=λe H A t u=>by
 obtain⟨τ,O,W⟩:=h e H A t u;obtain⟨τ',V,U⟩:=k _ _ O
 grind
theorem DL.fin{cand:T1}{f:Nat}{S:DS}{done:L1}(h:DL st E root cand f S done)(W:Ai st E root S)(U:S.heap=[]):rh st E root done:=by
 have u:∀n τ,bU S.known n=some τ->(n,τ)∈done:=λn τ hn=>by
  rcases h.due n τ hn with q|⟨i,q,_⟩
  ·exact q
  grind
 refine⟨h.dnd,λp Y=>h.jw p.1 p.2 (h.YR p Y),fun τ v s hR=>?_⟩
 have key:∃σ,bU S.known (v,s)=some σ∧τ<=σ:=by
  induction hR with
  |one e s H h2 A h4=>
   obtain⟨σ,O,V⟩:=W e H A s h4
   grind
  |more e s t _ H h2 A ih=>
   obtain⟨σ,O,V⟩:=ih;obtain⟨σ',q3,q4⟩:=h.out _ (u _ _ O) e H rfl t A
   grind
 grind
theorem uD{cand:T1}(H:∀e∈E,∀s t,st s e.label=some t->(e.to,t)∈cand):∀(f:Nat)(S:DS)(done:L1),DL st E root cand f S done->Ai st E root S->rh st E root (done++jC st E f S (done.map Prod.fst))
 |f,S,done,h,A=>by
  by_cases q:S.heap=[]
  ·rw[xV f _ q,List.append_nil];exact h.fin A q
  ·obtain⟨i,n,f',rfl,U,O,h3,Y⟩:=h.next H q
   by_cases u:n∈done.map Prod.fst
   ·rw[Ay q U O u];exact uD H f' S.pop done (h3 u) A
   ·rw[Ax q U O u];obtain⟨W,V⟩:=Y u
    have:=uD H f' _ _ W (A.keep V)
    simpa using this
end
abbrev K2:=ByteArray×ByteArray
abbrev So:=List K2
def pg(a b:K2):Prop:=a.1.data.toList<b.1.data.toList∨a.1=b.1∧a.2.data.toList<b.2.data.toList
instance (a b:K2):Decidable (pg a b):=inferInstanceAs (Decidable (_∨_))
theorem Au{a b:ByteArray}(h:a.data.toList=b.data.toList):a=b:=by
 obtain⟨⟨a⟩⟩:=a;simp_all
theorem lp(a b:ByteArray):a.data.toList<b.data.toList∨a=b∨b.data.toList<a.data.toList:=by
 grind[Au,List.le_antisymm,List.not_lt]
theorem eo(a:K2): ¬pg a a:=λh=>by
 rcases h with h|⟨_,h⟩<;>exact agf _ h
theorem iK{a b c:K2}(h:pg a b)(k:pg b c):pg a c:=by
 rcases h with h|⟨A,H⟩
 ·rcases k with k|⟨q,u⟩
  ·exact .inl (agh h k)
  ·rw[q]at h;exact .inl h
 ·rcases k with k|⟨q,u⟩
  ·rw[<-A]at k;exact .inl k
  ·exact .inr ⟨A.trans q,agh H u⟩
theorem nK(a b:K2):pg a b∨a=b∨pg b a:=by
 rcases lp a.1 b.1 with h|h|h
 ·exact .inl (.inl h)
 ·rcases lp a.2 b.2 with k|k|k
  ·exact .inl (.inr ⟨h,k⟩)
  ·grind
  ·exact .inr (.inr (.inr ⟨h.symm,k⟩))
 ·exact .inr (.inr (.inl h))
abbrev PL:=List (K2×Int)
def ez(l:PL):Prop:=l.Pairwise (λa b=>pg a.1 b.1)
def Iv(p:K2×Int):PL->PL
 | []=>[p]
 |q::l=>if pg p.1 q.1 then p::q::l else q::Iv p l
def cz(b:PL):PL:=b.foldr Iv []
theorem uW(p:K2×Int):∀l:PL,(Iv p l).Perm (p::l)
 | []=> .refl _
 |q::l=>by
  rw[Iv]
  split
  ·exact .refl _
  ·exact((uW p l).cons q).trans (.swap p q l)
theorem cL:∀b:PL,(cz b).Perm b
 | []=> .refl _
 |p::b=>(uW p _).trans ((cL b).cons p)
theorem AO{p:K2×Int}:∀{l:PL},ez l->(∀q∈l,q.1≠p.1)->ez (Iv p l)
 | [],_,_=>by simp[Iv,ez]
 |q::l,h,H=>by
  rw[ez,agi]at h;rw[Iv]
  split
  ·rename_i A;rw[ez,agi,agi];refine⟨λr u=>?_,h.1,h.2⟩
   rcases afZ.1 u with rfl|u
   ·exact A
   ·exact iK A (h.1 r u)
  ·rename_i A
   have O:pg q.1 p.1:=by
    rcases nK q.1 p.1 with a|a|a
    ·exact a
    ·exact absurd a (H q afr)
    ·exact absurd a A
   rw[ez,agi];refine⟨λr u=>?_,AO h.2 λr u=>H r (ae7 _ u)⟩
   rcases afZ.1 ((uW p l).mem_iff.1 u)with rfl|u
   ·exact O
   ·exact h.1 r u
theorem lM:∀{b:PL},(b.map Prod.fst).Nodup->ez (cz b)
 | [],_=>List.Pairwise.nil
 |p::b,h=>by
  rw[aga,agb]at h;refine AO (lM h.2) λq u e=>h.1 ?_;rw[<-e];exact List.mem_map_of_mem ((cL b).mem_iff.1 u)
theorem M5{l:PL}(h:ez l){k:K2}{s t:Int}(q:(k,s)∈l)(u:(k,t)∈l):s=t:=by
 induction l with
 |nil=>cases q
 |cons a l ih=>
  grind[ez,agi,absurd,eo]
theorem oC:∀{l m:PL},ez l->ez m->(∀p,p∈l↔p∈m)->l=m
 | [],[],_,_,_=>rfl
 | [],b::m,_,_,h=>absurd ((h b).2 zk) zk
 |a::l,[],_,_,h=>absurd ((h a).1 zk) zk
 |a::l,b::m,A,u,h=>by
  rw[ez,agi]at A u
  have q:a=b:=by
   grind[iK,eo]
  subst q
  refine congrArg _ (oC A.2 u.2 λs=>⟨λH=>?_,λH=>?_⟩)
  ·grind[ae7,eo]
  grind[ae7,eo]
section
variable {K:Type} [DecidableEq K]
def fI(l:List (K×Int))(b:List (K×Int)):List (K×Int):=l.foldl (λb p=>gb b p.1 p.2) b
theorem qA(l m b:List (K×Int)):fI (l++m) b=fI m (fI l b):=List.foldl_append
theorem jr:∀(l b:List (K×Int)),(b.map Prod.fst).Nodup->((fI l b).map Prod.fst).Nodup∧(∀k σ,bU (fI l b) k=some σ->bU b k=some σ∨(k,σ)∈l)∧(∀p∈l,∃σ,bU (fI l b) p.1=some σ∧p.2<=σ)∧(∀k τ,bU b k=some τ->∃σ,bU (fI l b) k=some σ∧τ<=σ)
 | [],b,h=>⟨h,λk σ h=> .inl h,λp u=>absurd u agc,λk τ h=>⟨τ,h,Int.le_refl _⟩⟩
 |p::l,b,h=>by
  obtain⟨V,U,O,H⟩:=jr l (gb b p.1 p.2) (SX _ _ h);have A:=Ew b p.1 p.2;show((fI l (gb b p.1 p.2)).map Prod.fst).Nodup∧(∀k σ,bU (fI l (gb b p.1 p.2)) k=some σ->_)∧(∀q∈p::l,∃σ,bU (fI l (gb b p.1 p.2)) q.1=some σ∧q.2<=σ)∧(∀k τ,bU b k=some τ->∃σ,bU (fI l (gb b p.1 p.2)) k=some σ∧τ<=σ)
  grind
end
def Ar:Int:=1099511627776
def iU(E:Id):PL:=E.flatMap (λe=>[((e.bP,e.bP),e.time),((e.to,e.to),e.time)])
def vB(E:Id):PL:=fI (iU E) []
def aI(E:Id):PL:=cz (vB E)
theorem Jq(E:Id):ez (aI E):=lM (jr _ [] afb).1
theorem zE{E:Id}{k:K2}{τ:Int}:(k,τ)∈aI E↔bU (vB E) k=some τ:=by
 have h:((vB E).map Prod.fst).Nodup:=(jr _ [] afb).1
 grind[aI,cL,j4]
theorem vv{E:Id}{k:K2}{τ:Int}:(k,τ)∈iU E ↔ ∃e∈E,(k=(e.bP,e.bP)∨k=(e.to,e.to))∧τ=e.time:=by
 simp only[iU,af0,afZ,agc,or_false,Prod.mk.injEq]
 grind
theorem GB{E:Id}{k:K2}{τ:Int}(h:(k,τ)∈aI E):∃e∈E,(k=(e.bP,e.bP)∨k=(e.to,e.to))∧τ=e.time:=by
 rcases(jr (iU E) [] afb).2.1 k τ (zE.1 h)with q|q
 ·cases q
 grind[vv]
theorem GA{E:Id}{e:bH}(q:e∈E):(∃τ,((e.bP,e.bP),τ)∈aI E∧e.time<=τ)∧∃τ,((e.to,e.to),τ)∈aI E∧e.time<=τ:=by
 have h:=(jr (iU E) [] afb).2.2.1;obtain⟨σ,O,H⟩:=h ((e.bP,e.bP),e.time) (vv.2 ⟨e,q,.inl rfl,rfl⟩);obtain⟨ρ,A,u⟩:=h ((e.to,e.to),e.time) (vv.2 ⟨e,q,.inr rfl,rfl⟩);exact⟨⟨σ,zE.2 O,H⟩,ρ,zE.2 A,u⟩
section
variable (st:Nat->ByteArray->Option Nat) (tk:Nat->Bool) (em:Bool) (n:Nat)
def jB(E:Id):T1:=E.flatMap (λe=>(List.range n).map (λs=>(e.to,s)))
def OO(E:Id)(root:ByteArray):DS:=pf st E (root,0) Ar ⟨[],[],[]⟩
def YQ(E:Id)(root:ByteArray):Nat:=(OO st E root).heap.length+(jB n E).length*(E.length+1)
def zU(E:Id)(root:ByteArray):L1:=jC st E (YQ st n E root) (OO st E root) []
def fB(D:L1)(v:K2×Int):PL:=(if em then [((v.1.1,v.1.1),v.2)]else [])++D.filterMap (λp=>if tk p.1.2 then some ((v.1.1,p.1.1),p.2)else none)
def vY(E:Id)(v:K2×Int):PL:=fB tk em (zU st n E v.1.1) v
def pT(E:Id):PL:=cz (fI ((aI E).flatMap (vY st tk em n E)) [])
def PT(E:Id)(f t:ByteArray)(τ:Int):Prop:=(em=true∧f=t∧∃e∈E,(e.bP=f∨e.to=f)∧τ<=e.time)∨∃s,tk s=true∧DZ st E τ f t s
structure Ag(E:Id)(L:PL):Prop where
 qQ:ez L
 jw:∀p∈L,PT st tk em E p.1.1 p.1.2 p.2
 all:∀f t τ,PT st tk em E f t τ->∃σ,((f,t),σ)∈L∧τ<=σ
end
section
variable {st:Nat->ByteArray->Option Nat} {tk:Nat->Bool} {em:Bool} {n:Nat}
theorem j6{E:Id}(q:∀s l t,st s l=some t->t<n):∀e∈E,∀s t,st s e.label=some t->(e.to,t)∈jB n E:=λe u s t h=>by
 simp only[jB,af0,List.mem_map,List.mem_range]
 grind
theorem qm(E:Id):(jB n E).length=E.length*n:=by
 induction E with
 |nil=>simp[jB]
 |cons e E ih=>
  grind[jB,aew,List.length_map,List.length_range,afa,Nat.add_mul]
theorem J2{E:Id}(H:∀s l t,st s l=some t->t<n)(hb:∀e∈E,e.time<=Ar)(root:ByteArray):DL st E root (jB n E) (YQ st n E root) (OO st E root) []∧Ai st E root (OO st E root):=by
 have h0:DC st E root ⟨[],[],[]⟩ []:=⟨λi _ h=>(by simp at h),afb,λn τ h=>(by cases h),λx h=>(by cases h),λn τ h=>(by cases h),λp h=>(by cases h),λp h=>(by cases h)⟩
 obtain⟨k1,k2,Y,O,k5,m,u,W⟩:=yi (st:=st) (E:=E) (root:=root) (a:=(root,0)) (time:=Ar) (done:=[]) (λp h=>(by cases h)) (kU E root) _ h0 (λe q t A=>by
  obtain⟨e1,e2⟩:=kn.1 q
  exact .one e t e1 zd e2 A)
 have hl:=xe E root
 refine⟨⟨k1,λp h=>(by cases h),afb,λx U=>?_,λn h=>(by cases h),?_,?_⟩,λe q hf t A=>?_⟩
 ·have u:(OO st E root).nodes=[]++m:=u;rw[u,List.nil_append]at U;obtain⟨e,q,s,rfl,hs⟩:=W x U;exact j6 H e (kn.1 q).1 0 s hs
 ·simp only[aeq,Nat.sub_zero];exact Nat.le_refl _
 ·have O:(OO st E root).nodes.length<=0+(kU E root).length:=O
  grind
 ·obtain⟨τ,V,q2⟩:=Y e (kn.2 ⟨q,hf⟩) t A
  have:=hb e q
  exact⟨τ,V,zd⟩
theorem Cn{E:Id}(q:∀s l t,st s l=some t->t<n)(u:∀e∈E,e.time<=Ar)(root:ByteArray):rh st E root (zU st n E root):=by
 obtain⟨H,A⟩:=J2 q u root
 have:=uD (j6 q) _ _ [] H A
 grind[zU]
theorem QM{E:Id}{τ:Int}{root v:ByteArray}{s:Nat}(h:DZ st E τ root v s):∃e∈E,e.bP=root:=by
 induction h with
 |one e s H A u q=>grind
 |more e s t _ _ _ _ ih=>exact ih
theorem r7{D:L1}{v:K2×Int}{k:K2}{τ:Int}:(k,τ)∈fB tk em D v↔(em=true∧k=(v.1.1,v.1.1)∧τ=v.2)∨∃p∈D,tk p.1.2=true∧k=(v.1.1,p.1.1)∧τ=p.2:=by
 rw[fB,agd,List.mem_filterMap]
 grind
theorem vZ{E:Id}{dl:ByteArray->L1}(Y:∀root,rh st E root (dl root)):Ag st tk em E (cz (fI ((aI E).flatMap (λv=>fB tk em (dl v.1.1) v)) [])):=by
 have W:=jr ((aI E).flatMap (λv=>fB tk em (dl v.1.1) v)) [] afb
 have u:∀k τ,(k,τ)∈cz (fI ((aI E).flatMap (λv=>fB tk em (dl v.1.1) v)) [])↔bU (fI ((aI E).flatMap (λv=>fB tk em (dl v.1.1) v)) []) k=some τ:=λk τ=>by
  grind[cL,j4]
 generalize hL:cz (fI ((aI E).flatMap (λv=>fB tk em (dl v.1.1) v)) [])=L at *
 have H:∀v∈aI E,∀k τ,(k,τ)∈fB tk em (dl v.1.1) v->∃σ,(k,σ)∈L∧τ<=σ:=λv V k τ hk=>by
  grind
 refine⟨hL ▸ lM W.1,λp A=>?_,λf t τ h=>?_⟩
 ·obtain⟨k,τ⟩:=p
  rcases W.2.1 k τ ((u k τ).1 A)with q|q
  ·cases q
  ·obtain⟨⟨kv,τv⟩,V,q⟩:=af0.1 q
   rcases r7.1 q with⟨U,h2,h3⟩|⟨p,U,h2,h3,h4⟩
   ·obtain⟨e,O,h5,h6⟩:=GB V;left
    grind
   ·right
    have:=(Y kv.1).jw p U
    grind
 ·rcases h with⟨U,rfl,e,O,h2,h3⟩|⟨s,hs,hR⟩
  ·grind[GA,r7]
  ·obtain⟨e,O,rfl⟩:=QM hR;obtain⟨⟨a,a1,a2⟩,_⟩:=GA O;obtain⟨σ,q1,q2⟩:=(Y e.bP).all τ t s hR;obtain⟨ρ,q3,q4⟩:=H _ a1 (e.bP,t) σ (r7.2 (.inr ⟨_,q1,hs,rfl,rfl⟩))
   grind
theorem IV{E:Id}(q:∀s l t,st s l=some t->t<n)(u:∀e∈E,e.time<=Ar):Ag st tk em E (pT st tk em n E):=vZ (λroot=>Cn q u root)
theorem Ni{E:Id}{L M:PL}(q:Ag st tk em E L)(u:Ag st tk em E M):L=M:=by
 have key:∀{L M:PL},Ag st tk em E L->Ag st tk em E M->∀p,p∈L->p∈M:=λq u p A=>by
  obtain⟨σ,O,W⟩:=u.all _ _ _ (q.jw p A);obtain⟨ρ,H,V⟩:=q.all _ _ _ (u.jw _ O);have U:=M5 q.qQ A H
  grind
 exact oC q.qQ u.qQ λp=>⟨key q u p,key u q p⟩
end
def Kl(a b:ByteArray):Bool:=Op.bytesLess a.toList b.toList
theorem cP{a b:ByteArray}:Kl a b=true↔a.data.toList<b.data.toList:=by
 rw[Kl,bytesLess_eq,decide_eq_true_eq,ByteArray.toList_eq,ByteArray.toList_eq]
def wI:ByteArray->Rd->Bool
 |_,[]=>true
 |last,p::l=>if Kl p.key last||p.key.toList==last.toList then false else cB p.key&&bo p.val&&wI p.key l
def Bh(l:Rd):Bool:=wI ⟨#[]⟩ l&&decide (l.length<=8)
def nL(e:bH):Int:=if fU e.bP&&fU e.to&&cB e.label&&Bh e.props then(if 0<=e.time∧e.time<=Ar then 0 else 6)else 2
def fb:Id->Int
 | []=>0
 |e::l=>if nL e≠0 then nL e else fb l
theorem EK{E:Id}{k:Nat}(h:k<E.length):fb (E.drop k)=if nL E[k]≠0 then nL E[k]else fb (E.drop (k+1)):=by
 rw[List.drop_eq_getElem_cons h,fb]
theorem uF:∀{E:Id},fb E=0->∀e∈E,nL e=0
 | [],_,e,q=>by cases q
 |a::l,h,e,q=>by
  rw[fb]at h
  split at h
  ·rename_i hn;exact absurd h hn
  ·rename_i hn
   rcases afZ.1 q with rfl|q
   ·exact Classical.not_not.1 hn
   ·exact uF h e q
theorem Az{e:bH}(h:nL e=0):0<=e.time∧e.time<=Ar:=by
 unfold nL at h
 split at h
 ·split at h
  ·assumption
  ·cases h
 ·cases h
def wo(a b:Int):Int:=if a<b then -1 else if b<a then 1 else 0
def mw(a b:ByteArray):Int:=if Kl a b then -1 else if Kl b a then 1 else 0
def IS(a b:Int):Int:=if a≠0 then a else b
def Y9(a b:fV):Int:=IS (wo a.1 b.1) (wo a.2 b.2)
theorem Iw(a b:fV):decide (Y9 a b<0)=gW a b:=by
 rw[agj,decide_eq_true_eq,lF,Y9,IS];unfold wo
 split<;>split<;>(try split)<;>(try split)<;>(try split)<;>omega
theorem Wo(a b:fV):decide (0<=Y9 a b) = !gW a b:=by
 rw[<-Iw,agj];simp
theorem TV(a b:ByteArray):(!(Kl a b||a.toList==b.toList))=Kl b a:=by
 rw[agj];simp only[Bool.not_eq_true',Bool.or_eq_false_iff,beq_eq_false_iff_ne,ne_eq]
 constructor
 ·rintro⟨u,A⟩
  rcases lp a b with h|h|h
  ·rw[cP.2 h]at u;cases u
  ·exact absurd (by rw[h]) A
  ·exact cP.2 h
 ·intro h;have q:=cP.1 h
  refine⟨?_,λe=>?_⟩
  ·rw[<-Bool.not_eq_true,cP];exactλk=>agf _ (agh q k)
  ·have:a=b:=by
    rw[ByteArray.toList_eq,ByteArray.toList_eq]at e;exact Au e
   rw[this]at q;exact agf _ q
theorem Qa(a:Int):aj prog 202 [.v (.int .i64 a)] (.v (.bool false)):=by
 refine gE func202 ntmps202 results202 ?_
 repeat(first|(with_reducible first|refine bG.up ?_|refineλ(K:AK)hK=>?_|(refine hK _ ?_;clear hK K))|simp only[go_sem,bne_self_eq_false]|clear hK K)
theorem OE(a b:Int):aj prog 162 [.v (.int .i64 a),.v (.int .i64 b)] (.v (.int .i64 (wo a b))):=by
 have V:=Qa a;have U:=Qa b
 by_cases q:a<b
 ·have H:decide (a<b)=true:=decide_eq_true q
  have u:wo a b = -1:=by rw[wo,if_pos q]
  rw[u];refine gE func162 ntmps162 results162 ?_
  (refine ae ?_;intro K hK K hK)
  (revert K;revert K;refine aK V ?_;intro K hK K hK)
  (revert K;revert K;exact Ph U H)
 ·have H:decide (a<b)=false:=decide_eq_false q
  by_cases A:b<a
  ·have O:decide (b<a)=true:=decide_eq_true A
   have u:wo a b=1:=by rw[wo,if_neg q,if_pos A]
   rw[u];refine gE func162 ntmps162 results162 ?_
   (refine ae ?_;intro K hK K hK)
   (revert K;revert K;refine aK V ?_;intro K hK K hK)
   (revert K;revert K;exact Cx U H O)
  ·have O:decide (b<a)=false:=decide_eq_false A
   have u:wo a b=0:=by rw[wo,if_neg q,if_neg A]
   rw[u];refine gE func162 ntmps162 results162 ?_
   (refine ae ?_;intro K hK K hK)
   (revert K;revert K;refine aK V ?_;intro K hK K hK)
   (revert K;revert K;exact Cx U H O)
theorem S8(a b:Int):aj prog 61 [.aB 1 [[.v (.int .i64 a)],[.v (.int .i64 b)]] 2] (.v (.int .i64 (IS a b))):=by
 refine gE func61 ntmps61 results61 ?_
 (refine ae ?_;intro K hK)
 have d0:decide (((0:Nat):Int)<((2:Nat):Int))=true:=zs
 have d1:decide (((1:Nat):Int)<((2:Nat):Int))=true:=zs
 have d2:decide (((2:Nat):Int)<((2:Nat):Int))=false:=zs
 have w0:=ag (k:=0) zd;have O:=ag (k:=1) zd
 refine bg (ι:=Nat) 9 (λi=>[(5,.undef),(8,.v (.int .i64 i))]) (λi=>2-i) (λi=>i<=2∧(0<i->a=0)∧(1<i->b=0)) 0 ⟨zd,zd,zd⟩ ?_ ?_
 ·refine ab (bJ ?_) ar ar
  all_goals first|rfl
 ·rintro i ⟨hi,H,U⟩ K hK
  match i,hi with
  |0,_=>
   by_cases h:a=0
   ·have q:(a !=0)=false:=by simp[h]
    (revert K;revert K;refine ak (nq q d0 w0) ?_)
    exact aw.mk 1 ⟨zd,λ_=>h,zd⟩ zd (by exact ab ar ar ar)
   ·have q:(a !=0)=true:=by simpa using h
    have u:IS a b=a:=by rw[IS,if_pos h]
    (revert K;revert K;refine fc q d0 ?_)
    rw[u]
  |1,_=>
   have A:=H zd
   by_cases h:b=0
   ·have q:(b !=0)=false:=by simp[h]
    (revert K;revert K;refine ak (nq q d1 O) ?_)
    exact aw.mk 2 ⟨zd,λ_=>A,λ_=>h⟩ zd (by exact ab ar ar ar)
   ·have q:(b !=0)=true:=by simpa using h
    have u:IS a b=b:=by rw[IS,if_neg (by simp[A])]
    (revert K;revert K;refine fc q d1 ?_)
    rw[u]
  |2,_=>
   have A:=H zd;have V:=U zd
   have u:IS a b=0:=by rw[IS,if_neg (by simp[A]),V]
   (revert K;revert K;refine ak d2 ?_)
   rw[u]
  |i+3,h=>omega
def bc(x:fV):C5:=[.v (.int .i64 x.1),.v (.int .i64 x.2)]
theorem Dn(a b:fV):aj prog 131 [.agg (bc a),.agg (bc b)] (.v (.int .i64 (Y9 a b))):=by
 have A:=OE a.1 b.1;have u:=OE a.2 b.2;have q:=S8 (wo a.1 b.1) (wo a.2 b.2);rw[Y9];simp only[bc];refine gE func131 ntmps131 results131 ?_
 (refine bj ?_;intro K hK K hK)
 (revert K;revert K;refine rM A ?_;intro K hK K hK)
 (revert K;revert K;refine rM u ?_;intro K hK K hK)
 (revert K;revert K;exact Wj q)
 trace_state
def bI(k:K2):C5:=[.v (.string k.1),.v (.string k.2)]
def eC(a b:K2):Int:=IS (mw a.1 b.1) (mw a.2 b.2)
section
variable {P:Program} {ops:Array Oper}
def jb:GE->GE
 | []=>[]
 |o::l=>o::l.map (λp=>{p with after:=p.after.push ⟨0,.data⟩})
theorem xX(l:GE):(jb l).length=l.length:=by cases l<;>simp[jb]
theorem sO(l:GE)(i:Nat):(jb l)[i]?=(l[i]?).map (λp=>if i=0 then p else{p with after:=p.after.push ⟨0,.data⟩}):=by
 cases l with
 |nil=>simp[jb]
 |cons o l=>
  cases i with
  |zero=>simp[jb]
  |succ i=>simp[jb]
theorem H6(l:GE)(t:Array Value):yielded (jb l).toArray t=yielded l.toArray t:=by
 funext j
 simp only[yielded,aeD,sO]
 cases l[j]? with
 |none=>rfl
 |some o=>by_cases h:j=0<;>simp only[aeO,Option.bind_some,h,if_true,if_false]
theorem Th{F:Fence}{n:Nat}{Q:Exit->Act->World->Prop}{l:GE}{i:Nat}{K:Act->World->Prop}{a:Act}{w:World}(h:wpOpIn F n P (jb l).toArray Q i K a w):wpOpIn F n P l.toArray Q i K a w:=by
 unfold wpOpIn at h⊢;simp only[aeD,sO,H6]at h⊢
 cases q:l[i]? with
 |none=>simpa [q]using h
 |some o=>
  simp only[q,aeO]at h⊢
  split at h<;>exact h
theorem J3{F:Fence}{n:Nat}{Q:Exit->Act->World->Prop}{l:GE}{ops:Array Oper}{E:Act->World->Prop}:∀(fuel:Nat)(listed:Array Bool)(a:Act)(w:World),qM (wpOpIn F n P (jb l).toArray Q) ops E fuel listed a w->qM (wpOpIn F n P l.toArray Q) ops E fuel listed a w
 |0,_,_,_,h=>h
 |fuel+1,_,_,_,h=>⟨h.1,λi hi=>Th (wpOpIn_mono (λ_ _=>J3 fuel _ _ _) (h.2 i hi))⟩
theorem xY{l:GE}{listed:Array Bool}(q:listed.getD 0 false=true):Region.ready .any (jb l).toArray listed=Region.ready .any l.toArray listed:=by
 unfold Region.ready;simp only[afj,xX,aeD,sO];refine List.filter_congr λi _=>?_
 congr 1
 cases l[i]? with
 |none=>rfl
 |some o=>
  simp only[aeO,Option.getD_some]
  split
  ·rfl
  ·simp;intro _;right;simpa using q
theorem EJ{st:Nat->(Act->World->Prop)->Act->World->Prop}(u:∀(i:Nat)(K O:Act->World->Prop)(a:Act)(w:World),(∀a w,K a w->O a w)->st i K a w->st i O a w){l:GE}{E:Act->World->Prop}:∀(fuel:Nat)(listed:Array Bool)(a:Act)(w:World),listed.getD 0 false=true->qM st (jb l).toArray E fuel listed a w->qM st l.toArray E fuel listed a w
 |0,listed,a,w,H,h=>by
  rw[qM,xY H]at h;exact h
 |fuel+1,listed,a,w,H,h=>by
  rw[qM,xY H]at h;refine⟨h.1,λi hi=>u _ _ _ _ _ (λa w=>EJ u fuel _ a w ?_) (h.2 i hi)⟩
  by_cases A:i=0
  ·subst A
   have:0<listed.size:=by
    rcases Nat.eq_zero_or_pos listed.size with q|q
    ·simp[q]at H
    ·exact q
   simp[this]
  ·rw[getD_set_ne false A];exact H
theorem L2{r:Option Nat}{n i:Nat}{o:Oper}{Q:Exit->Act->World->Prop}(hC:dP ops=true)(hns:Region.noSelect ops=true)(hP:∀c a w, ¬Q (.panic c) a w)(V:ops[i]?=some o){d t:Tmp}{v:Value}{a:Act}{w:World}{K:Act->World->Prop}(hd:d∉o.looksAt ops)(hod:o.dst≠some d)(Y:o.dst≠some t)(h:wpOpIn (WF r) n P ops Q i K (a.put (some d) v) w) :
  wpOpIn (WF r) n P ops Q i (λa' w'=>K (a'.put (some d) v) w'∧a'.eval (.tmp t)=a.eval (.tmp t)) a w:=by
 have U:=λcs b=>Region.noSelect_spec hns i o cs b V;have A:∀(a:Act)(u:Value),(a.put (some d) v).put o.dst u=(a.put o.dst u).put (some d) v:=λa u=>Act.put_comm a v u (λe H q=>hod (by rw[q,H]))
 have O:∀(a:Act)(u:Value),(a.put o.dst u).eval (.tmp t)=a.eval (.tmp t):=λa u=>Act.eval_put λe H W=>Y (by
  rw[H];injection W with W;rw[W])
 unfold wpOpIn at h⊢;simp only[V]at h⊢;rw[wanted_put o a (some d) v (λe H=>by injection H with H;exact H ▸ hd)]at h
 split at h
 ·rename_i hw;rw[if_pos hw];refine⟨λf _=>trivial,?_⟩;have h:=h.2;rw[pz hC V,execOp_put o U a (some d) v (λe H=>by injection H with H;exact H ▸ hd)]at h;rw[pz hC V];generalize(execOp a.eval o).run P w=res at h⊢
  cases res with
  |ok x w'=>
   cases x<;>simp only[Oper.uponIn]at h⊢
   case value=>exact⟨A _ _ ▸ h,O _ _⟩
   case skip=>exact⟨A _ _ ▸ h,O _ _⟩
   case enter=>
    refine⟨h.1,CallsIn.mono h.2 λe w'' H=>?_⟩;cases e
    case returned=>exact⟨A _ _ ▸ H,O _ _⟩
    case panicked=>exact absurd H (hP _ _ _)
    case outgrown=>exact H
   case defer q=>exact⟨A {a with defers:=q::a.defers} undef ▸ h,O {a with defers:=q::a.defers} undef⟩
   case row=>exact⟨h.1,RowsIn.mono h.2 λ_ _ H=>⟨A _ _ ▸ H,O _ _⟩⟩
   case round=>
    refine⟨h.1,RoundIn.mono h.2 λe w'' H=>?_⟩;cases e
    case returned=>exact⟨A _ _ ▸ H,O _ _⟩
    case panicked=>exact absurd H (hP _ _ _)
    case outgrown=>exact H
  |halt x w'=>
   cases x<;>simp only[Oper.uponIn]at h⊢
   all_goals first|exact h|exact absurd h (hP _ _ _)
 ·rename_i hw;rw[if_neg hw];exact⟨λf _=>trivial,A _ _ ▸ h.2,O _ _⟩
def A4(ops:Array Oper)(d t:Tmp):Bool:=
 Region.noSelect ops&&dP ops&&(d !=t)&&(match ops[0]? with|some o=>(o.dst==some d)&&(match o.op with| .move (.tmp u)=>u==t|_=>false)&&o.guard.isNone&&(o.after.size==0)|none=>false) &&
 (List.range ops.size).all (λj=>j==0||match ops[j]? with|some o=>(o.dst !=some d)&&(o.dst !=some t)&&(bb ops j 0 || !(o.looksAt ops).contains d)|none=>true)
theorem Fw{r:Option Nat}{n:Nat}{Q:Exit->Act->World->Prop}{d t:Tmp}(hL:A4 ops d t=true):0<ops.size∧(∀(l:GE)(listed:Array Bool),l.toArray=ops->listed.getD 0 true=false->0∈Region.ready .any (jb l).toArray listed)∧(∀(listed:Array Bool),listed.getD 0 true=false->0∈Region.ready .any ops listed)∧∀(K:Act->World->Prop)a w,wpOpIn (WF r) n P ops Q 0 K a w↔K (a.put (some d) (a.eval (.tmp t))) w:=by
 simp only[A4,ae6,List.all_eq_true,List.mem_range,bne_iff_ne]at hL;obtain⟨⟨⟨⟨hns,hC⟩,hdt⟩,H⟩,hall⟩:=hL
 obtain⟨o0,A,U,W,hg,V⟩:∃o0:Oper,ops[0]?=some o0∧o0.dst=some d∧o0.op=.move (.tmp t)∧o0.guard=none∧o0.after = #[]:=by
  cases ho:ops[0]? with
  |none=>simp[ho]at H
  |some o=>
   simp only[ho,ae6,beq_iff_eq]at H;refine⟨o,rfl,H.1.1.1,?_,by simpa using H.1.2,by simpa using H.2⟩
   have:=H.1.1.2
   split at this
   ·rename_i u hu;rw[hu];simp at this;rw[this]
   ·cases this
 have h0s:0<ops.size:=by
  rcases Nat.eq_zero_or_pos ops.size with q|q
  ·rw[Array.getElem?_eq_none zd]at A;cases A
  ·exact q
 refine⟨h0s,λl listed Y hl=>mem_ready.2 ⟨hl,o0,by subst Y;simp only[aeD]at A;simp[sO,A],λe O _=>by rw[V]at O;simp at O⟩,λlisted hl=>mem_ready.2 ⟨hl,o0,A,λe O _=>by rw[V]at O;simp at O⟩,?_⟩
 ·intro K a w;unfold wpOpIn;simp only[A];rw[if_pos (by simp[Region.wanted,hg])];unfold Oper.wpIn;rw[pz hC A]
  have:(execOp a.eval o0).run P w=.ok (.value (a.eval (.tmp t))) w:=by unfold execOp;rw[W];rfl
  rw[this];simp only[Oper.uponIn,U];exact⟨λh=>h.2,λh=>⟨λf _=>trivial,h⟩⟩
theorem IF{r:Option Nat}{n:Nat}{Q:Exit->Act->World->Prop}{E:Act->World->Prop}{d t:Tmp}(hL:A4 ops d t=true)(hP:∀c a w, ¬Q (.panic c) a w):∀(fuel:Nat)(listed:Array Bool)(a:Act)(w:World),listed.size=ops.size->listed.getD 0 true=false->qM (wpOpIn (WF r) n P ops Q) ops E fuel (listed.setIfInBounds 0 true) (a.put (some d) (a.eval (.tmp t))) w->qM (wpOpIn (WF r) n P ops Q) ops E (fuel+1) listed a w:=by
 obtain⟨h0s, -,hread,u⟩:=Fw (P:=P) (Q:=Q) (r:=r) (n:=n) hL;simp only[A4,ae6,List.all_eq_true,List.mem_range,bne_iff_ne]at hL;obtain⟨⟨⟨⟨hns,hC⟩,hdt⟩,h0⟩,V⟩:=hL
 have hstep:∀(listed:Array Bool),listed.size=ops.size->listed.getD 0 true=false->∀i∈Region.ready .any ops listed,i≠0->i∈Region.ready .any ops (listed.setIfInBounds 0 true)∧∀(K:Act->World->Prop)v a w,wpOpIn (WF r) n P ops Q i K (a.put (some d) v) w->wpOpIn (WF r) n P ops Q i (λY w'=>K (Y.put (some d) v) w'∧Y.eval (.tmp t)=a.eval (.tmp t)) a w:=by
  intro listed O hl i hi q;obtain⟨g1,o,g2,g3⟩:=mem_ready.1 hi;have hil:i<ops.size:=(Array.getElem?_eq_some_iff.1 g2).1
  refine⟨mem_ready.2 ⟨by rw[getD_set_ne true (Ne.symm q)];exact g1,o,g2,λe H hb=>?_⟩,?_⟩
  ·by_cases U:e.on=0
   ·rw[U];simp[O,h0s]
   ·rw[getD_set_ne false (Ne.symm U)];exact g3 e H hb
  ·have W:=V i hil;simp only[g2,Bool.or_eq_true,beq_iff_eq,q,false_or,ae6,bne_iff_ne]at W;intro K v a w h;refine L2 hC hns hP g2 ?_ W.1.1 W.1.2 h
   rcases W.2 with A|hlook
   ·exfalso;simp only[bb,g2,ae6,beq_iff_eq,Array.any_eq_true']at A;obtain⟨e,H,hb,h00⟩:=A
    have:=g3 e H hb
    rw[h00]at this;simp only[Array.getD_eq_getD_getElem?]at this hl;rw[Array.getElem?_eq_getElem zd]at this hl;simp at this hl;rw[this]at hl;cases hl
   ·intro hm;rw[List.contains_iff_mem.2 hm]at hlook;cases hlook
 intro fuel
 induction fuel with
 |zero=>
  intro listed a w O hl h
  refine⟨λH=>?_,λi hi=>?_⟩
  ·have:=hread listed hl;rw[H]at this;cases this
  ·by_cases q:i=0
   ·subst q;exact(u _ _ _).2 h
   ·have:=(hstep listed O hl i hi q).1
    rw[h.1]at this;cases this
 |succ fuel ih=>
  intro listed a w O hl h
  refine⟨λH=>?_,λi hi=>?_⟩
  ·have:=hread listed hl;rw[H]at this;cases this
  ·by_cases q:i=0
   ·subst q;exact(u _ _ _).2 h
   ·obtain⟨q1,q2⟩:=hstep listed O hl i hi q;refine wpOpIn_mono (λY w' hk=>?_) (q2 _ _ _ _ (h.2 i q1));have e:(listed.setIfInBounds 0 true).setIfInBounds i true=(listed.setIfInBounds i true).setIfInBounds 0 true:=Array.setIfInBounds_comm _ _ (Ne.symm q)
    refine ih _ Y w' (by simpa using O) ?_ ?_
    ·rw[getD_set_ne true q];exact hl
    ·rw[<-e,hk.2];exact hk.1
theorem qi{n0 id:Nat}{s:AS}{l:GE}{Q:bd->AS->Prop}(m0 d t:Nat)(hL:A4 l.toArray d t=true)(H:ia (jb l).toArray m0=true)(hC:dP (jb l).toArray=true)(h:fX P (jb l) (λs=>jU P (jb l) ((jb l).drop m0) s (Q .normal)) ((jb l).take m0) s):cD P n0 (.region id l.toArray true) s Q:=by
 refine .inr (λf m D nu a w hZr hn hm hs hmx R hO hR=>?_)
 have hCl:dP l.toArray=true:=by
  simp only[A4,ae6]at hL;exact hL.1.1.1.2
 have hm0:m0<=(jb l).length:=by
  simp only[ia,ae6,decide_eq_true_eq,afj]at H;exact Nat.le_of_lt H.1.1.2
 have hcalm:∀oo,oo∈(jb l).drop m0->∀c,oo.op ≠ .defer c:=λoo W c e=>by
  unfold dP at hC;rw[Array.all_eq_true_iff_forall_mem]at hC;have h2:=hC oo (by simpa using List.mem_of_mem_drop W);rw[e]at h2;cases h2
 obtain⟨u,A⟩:∃u:Exit->Act->World->Prop,u=λe a w=>(match e with| .panic _=>False|_=>True)∧R e a w:=⟨_,rfl⟩
 have hP:∀c a w, ¬u (.panic c) a w:=λc a w q=>by rw[A]at q;exact q.1
 have hN:∀a w,R .normal a w->u .normal a w:=λa w q=>by rw[A];exact⟨trivial,q⟩
 obtain⟨rs,V⟩:=jZ (P:=P) (T:=λk=>tZ (wpOpIn (WF f.r) 9 P (jb l).toArray u) (u .normal) (List.range' k ((jb l).length-k))) hm0 H hs.drew (λsk a' wr hE W hy O hB'=>tf _ _ _ _ zd (mF m hZr _ sk a' wr D nu hcalm (by
  rw[W,hy];exact m.own hm hs.ro ((aG (dE w)).trans (aG hE)) (W ▸ O.ro)) O hB' (λD' s' a2 w2 nu' q1 q2 q3=>hN _ _ (hR .normal D' f.Z s' a2 w2 nu' q1 q2 q3)))) ((jb l).take m0) 0 s [] (λ_=>a) zk (Nat.zero_le _) ⟨rfl,rfl,rfl,λ_=>rfl,λ_=>hs.tm.len,λx t c v h1 h2=> .inl ⟨h1,h2⟩⟩ h
 have Y:=jH _ (λ_=>false) (λi v w h=>by cases h) m0 (KO hC u) H (oy _ _ _ V);have Y:=J3 _ _ _ _ Y
 have hlen:0<l.length:=by
  rw[<-xX];simp only[ia,ae6,decide_eq_true_eq,afj]at H
  have:=H.1.1.2;omega
 obtain⟨fuel,hf⟩:∃fuel,l.length=fuel+1:=⟨l.length-1,zd⟩
 have hX2:qM (wpOpIn (WF f.r) 9 P l.toArray u) l.toArray (u .normal) (fuel+1) (Array.replicate (fuel+1) false) a w.drew:=by
  rw[afj,xX,hf]at Y;refine IF hL hP fuel _ a _ (by simp[hf]) zk ?_;obtain⟨-,he, -,U⟩:=Fw (P:=P) (Q:=u) (r:=f.r) (n:=9) hL;exact EJ (st:=wpOpIn (WF f.r) 9 P l.toArray u) (λi K K' a w h k=>wpOpIn_mono h k) fuel ((Array.replicate (fuel+1) false).setIfInBounds 0 true) _ _ zk ((U _ _ _).1 (Y.2 0 (he l _ rfl zk)))
 refine Code.wpIn_mono (Q:=u) (λe a w q=>by rw[A]at q;exact q.2) (wpIn_region_any hmx (Cf _ _ _ _ ?_));rw[afj,hf];exact hX2
end
section
variable {K:Type} [DecidableEq K] {enc:K->C5} {ks:Nm}
def JE(ks:Nm)(enc:K->C5):Prop:=∀a b,lB ks (enc a) (enc b)=some (decide (a=b))
def cg(enc:K->C5)(l:List (K×Int)):List C5:=l.map (λp=>[.agg (enc p.1),.v (.int .i64 p.2)])
theorem mL(h:JE ks enc)(k:K):∀l:List (K×Int),kK ks (enc k) (cg enc l)=some ((bU l k).map λt=> .v (.int .i64 t))
 | []=>rfl
 |p::l=>by
  rw[cg,aga,kK,h k p.1,bU]
  by_cases e:p.1=k
  ·grind
  ·rw[if_neg e,decide_eq_false (Ne.symm e)];exact mL h k l
theorem ub(h:JE ks enc)(k:K)(t:Int):∀l:List (K×Int),l8 ks (enc k) (.v (.int .i64 t)) (cg enc l)=some (cg enc (gP l k t))
 | []=>rfl
 |p::l=>by
  rw[cg,aga,l8,h k p.1,gP]
  by_cases e:p.1=k
  ·rw[if_pos e,decide_eq_true e.symm];rfl
  ·rw[if_neg e,decide_eq_false (Ne.symm e)];show Option.map _ (l8 ks (enc k) _ (cg enc l))=_;rw[ub h k t l];rfl
omit [DecidableEq K]in
theorem gn{n:Nat}(q:∀k,aU n (enc k)=true):∀l:List (K×Int),bD n (cg enc l)=true
 | []=>rfl
 |p::l=>by
  simp only[cg,aga,bD,aU,AV.wf,q p.1,Bool.true_and,afo];exact gn q l
end
theorem BC(a b:ByteArray):(a.toList==b.toList)=decide (a=b):=by
 rw[Bool.eq_iff_iff,beq_iff_eq,decide_eq_true_eq]
 grind[sG]
def cJ(k:Nd):C5:=[.v (.string k.1),.v (.int .i64 k.2)]
theorem Py:JE [.s,.s] bI:=λa b=>by
 obtain⟨A,a2⟩:=a;obtain⟨u,q⟩:=b;simp only[bI,lB,kv,BC,afo,aez]
 grind
theorem vU:JE [.s,.i] cJ:=λa b=>by
 obtain⟨A,a2⟩:=a;obtain⟨u,q⟩:=b;simp only[cJ,lB,kv,BC,afo,if_true,aez]
 grind
theorem WT(l:List (K2×Int))(k:K2)(t:Int):bR prog 29 [.vec 0 0,.agg (bI k),.v (.int .i64 t)] [some ⟨70,0,false,cg bI l⟩] (.v (.bool (dW l k t))) [some ⟨70,0,false,cg bI (gb l k t)⟩]:=by
 have g1:=mL Py k l;have g2:=ub Py k t l;have g3:=Py k k;rw[decide_eq_true rfl]at g3;have eW:∀l,bD 1 (cg bI l)=true:=gn (λ_=>rfl)
 have tt:lS prog 74=some [.s,.s]:=zo
 rw[gb];unfold dW
 cases u:bU l k with
 |none=>
  rw[u]at g1;simp only[Option.map_none,if_true]at g1⊢;simp only[bI]at g1 g2 g3⊢;refine gF func29 ntmps29 results29 ?_;refine ak (pG g1 g2 g3 tt) ?_;refine⟨ek,AL ?_,ek⟩
  grind
 |some nZ=>
  rw[u]at g1;simp only[aeO]at g1⊢
  by_cases q:nZ<t
  ·have d1:decide (t<=nZ)=false:=bi;simp only[decide_eq_true q,if_true];simp only[bI]at g1 g2 g3⊢;refine gF func29 ntmps29 results29 ?_;refine ak (qq g1 g2 g3 tt d1) ?_;refine⟨ek,AL ?_,ek⟩
   grind
  ·have d1:decide (t<=nZ)=true:=b0;simp only[decide_eq_false q,if_false,Bool.false_eq_true];simp only[bI]at g1 g2 g3⊢;refine gF func29 ntmps29 results29 ?_;refine ak (qq g1 g2 g3 tt d1) ?_;refine⟨ek,AL ?_,ek⟩
   grind
theorem WU(l:L1)(k:Nd)(t:Int):bR prog 56 [.vec 0 0,.agg (cJ k),.v (.int .i64 t)] [some ⟨108,0,false,cg cJ l⟩] (.v (.bool (dW l k t))) [some ⟨108,0,false,cg cJ (gb l k t)⟩]:=by
 have g1:=mL vU k l;have g2:=ub vU k t l;have g3:=vU k k;rw[decide_eq_true rfl]at g3;have eW:∀l,bD 1 (cg cJ l)=true:=gn (λ_=>rfl)
 have tt:lS prog 79=some [.s,.i]:=zo
 rw[gb];unfold dW
 cases u:bU l k with
 |none=>
  rw[u]at g1;simp only[Option.map_none,if_true]at g1⊢;simp only[cJ]at g1 g2 g3⊢;refine gF func56 ntmps56 results56 ?_;refine ak (pG g1 g2 g3 tt) ?_;refine⟨ek,AL ?_,ek⟩
  grind
 |some nZ=>
  rw[u]at g1;simp only[aeO]at g1⊢
  by_cases q:nZ<t
  ·have d1:decide (t<=nZ)=false:=bi;simp only[decide_eq_true q,if_true];simp only[cJ]at g1 g2 g3⊢;refine gF func56 ntmps56 results56 ?_;refine ak (qq g1 g2 g3 tt d1) ?_;refine⟨ek,AL ?_,ek⟩
   grind
  ·have d1:decide (t<=nZ)=true:=b0;simp only[decide_eq_false q,if_false,Bool.false_eq_true];simp only[cJ]at g1 g2 g3⊢;refine gF func56 ntmps56 results56 ?_;refine ak (qq g1 g2 g3 tt d1) ?_;refine⟨ek,AL ?_,ek⟩
   grind
section
open Go.ChangeMaps (setBlock)
section
variable {F:Fence} {n:Nat} {P:Program} {w:World} {ops:Array Oper} {rest:GE} {o:Oper} {a:Act} {Q:Exit->Act->World->Prop}
theorem CM(U:o.guard=none)(m:Operand)(t k e:TypeId)(b:Nat)(es:Array MapEntry)(cl:Nat)(q:o.op=Op.range t m)(H:P.underlying t=some (.map k e))(O:a.eval m=.map (some b))(V:w.heap[b]?=some (.map es cl))
  (hK:wpListIn F n P ops Q rest (a.put o.dst (.pointer (some ⟨w.heap.size,0,none⟩))) (w.alloc (.mapIter (some b) cl #[] cl))):wpListIn F n P ops Q (o::rest) a w:=by
 refine wpListIn_plain U λW A=>?_;unfold Oper.wpIn;refine⟨by simp[Oper.about,q],?_⟩;rw[Oper.semAt_plain F _ _ (by rw[q];intro c u;cases u)];simp[execOp,q,O,run_range_map w t k e b es cl H V,Result.andThen];exact A _ _ hK
theorem Fh(O:o.guard=none)(p:Operand)(t:TypeId)(v:Value)(q:o.op=Op.load t p)(u:(Instr.loadAt t (a.eval p)).run P w=.ok v w)(hK:wpListIn F n P ops Q rest (a.put o.dst v) w):wpListIn F n P ops Q (o::rest) a w:=by
 refine wpListIn_plain O λU H=>?_;unfold Oper.wpIn;refine⟨by simp[Oper.about,q],?_⟩;rw[Oper.semAt_plain F _ _ (by rw[q];intro c A;cases A)];simp[execOp,q,u,Result.andThen];exact H _ _ hK
def Ys(es:Array MapEntry)(seen:Array Nat):Prop:=(leftOf es seen).size=0
def Yv(w:World)(r:Nat)(o':Obj)(w2:World):Prop:=w2=setBlock w r o'∨w2=setBlock w.drew r o'
def Yu(es:Array MapEntry)(seen:Array Nat)(e:MapEntry):Prop:=e∈(leftOf es seen).toList
theorem Fi(hg:o.guard=none)(it:Operand)(u:o.op=Op.next it false)(r bm since W:Nat)(seen:Array Nat)(es:Array MapEntry)(cl:Nat)(A:a.eval it=.pointer (some ⟨r,0,none⟩))
  (hr:w.heap[r]?=some (.mapIter (some bm) since seen W))(hb:w.heap[bm]?=some (.map es cl))(hold:∀x∈es.toList,x.born<since)(U:since<=W)
  (hDone:Ys es seen->wpListIn F n P ops Q rest (a.put o.dst (.tuple #[.bool false])) w)
  (hMore:∀(e:MapEntry)(Y:World),Yu es seen e->Yv w r (.mapIter (some bm) since (seen.push e.born) cl) Y->wpListIn F n P ops Q rest (a.put o.dst (.tuple #[.bool true,e.key,e.val])) Y) :
  wpListIn F n P ops Q (o::rest) a w:=by
 refine wpListIn_plain hg λK' H=>?_;unfold Oper.wpIn;refine⟨by simp[Oper.about,u],?_⟩;rw[Oper.semAt_plain F _ _ (by rw[u];intro c V;cases V)]
 rcases run_next_at (P:=P) w o.type r bm since W seen es cl hr hb hold U with⟨h0,q⟩|⟨e,he,w1,O,q⟩
 ·simp[execOp,u,A,q,Result.andThen];exact H _ _ (hDone h0)
 ·simp[execOp,u,A,q,Result.andThen];exact H _ _ (hMore e _ he (by rcases O with rfl|rfl;exact .inl rfl;exact .inr rfl))
theorem CH(U:o.guard=none)(it:Operand)(q:o.op=Op.entry it)(r:Nat)(v:Value)(A:a.eval it=.pointer (some ⟨r,0,none⟩))(u:(Instr.entry (.pointer (some ⟨r,0,none⟩))).run P w=.ok v w)
  (hK:wpListIn F n P ops Q rest (a.put o.dst v) w):wpListIn F n P ops Q (o::rest) a w:=by
 refine wpListIn_plain U λV O=>?_;unfold Oper.wpIn;refine⟨by simp[Oper.about,q],?_⟩;rw[Oper.semAt_plain F _ _ (by rw[q];intro c H;cases H)];simp[execOp,q,A,u,Result.andThen];exact O _ _ hK
end
def eb{α:Type}(l:List (α×MapEntry))(seen:Array Nat):List (α×MapEntry):=l.filter (λp=> !seen.contains p.2.born)
theorem yE{α:Type}{seen:Array Nat}:∀{l:List (α×MapEntry)},(l.map (λp=>p.2.born)).Nodup->∀{p:α×MapEntry},p∈l->seen.contains p.2.born=false->(eb l seen).Perm (p::eb l (seen.push p.2.born))
 | [],_,p,h,_=>by cases h
 |q::l,hn,p,h,U=>by
  rw[aga,List.nodup_cons]at hn
  have push:∀b,(seen.push p.2.born).contains b=(seen.contains b||b==p.2.born):=λb=>by
   rw[Bool.eq_iff_iff];simp
  rcases List.mem_cons.1 h with rfl|h
  ·have H:eb (p::l) seen=p::eb l seen:=by simp only[eb];rw[agk (by rw[U];rfl)]
   have A:eb (p::l) (seen.push p.2.born)=eb l (seen.push p.2.born):=by simp only[eb];rw[agl (by rw[push];simp)]
   have V:eb l (seen.push p.2.born)=eb l seen:=by
    refine List.filter_congr λq u=>?_
    have:q.2.born≠p.2.born:=λe=>hn.1 (e ▸ List.mem_map.2 ⟨q,u,rfl⟩)
    rw[push];simp[this]
   rw[H,A,V]
  ·have O:q.2.born≠p.2.born:=λe=>hn.1 (e ▸ List.mem_map.2 ⟨p,h,rfl⟩);have ih:=yE hn.2 h U
   by_cases u:seen.contains q.2.born=true
   ·have H:eb (q::l) seen=eb l seen:=by simp only[eb];rw[agl (by rw[u];simp)]
    have A:eb (q::l) (seen.push p.2.born)=eb l (seen.push p.2.born):=by simp only[eb];rw[agl (by rw[push,u];simp)]
    rw[H,A];exact ih
   ·rw[Bool.not_eq_true]at u
    have H:eb (q::l) seen=q::eb l seen:=by simp only[eb];rw[agk (by rw[u];rfl)]
    have A:eb (q::l) (seen.push p.2.born)=q::eb l (seen.push p.2.born):=by simp only[eb];rw[agk (by rw[push,u];simp[O])]
    rw[H,A];exact(ih.cons q).trans (.swap _ _ _)
theorem Mt{α:Type}{seen:Array Nat}{l:List (α×MapEntry)}(h:∀p∈l,seen.contains p.2.born=true):eb l seen=[]:=by
 rw[eb,List.filter_eq_nil_iff];intro p hp;rw[h p hp];simp
theorem K3{α β:Type}:∀{l:List α}{m:List β},l.length=m.length->(l.zip m).map Prod.snd=m
 | [],[],_=>rfl
 |a::l,b::m,h=>by simp[K3 (by simpa using h)]
theorem zip_fst{α β:Type}:∀{l:List α}{m:List β},l.length=m.length->(l.zip m).map Prod.fst=l
 | [],[],_=>rfl
 |a::l,b::m,h=>by simp[zip_fst (by simpa using h)]
theorem G5.trans{X:Nat->Prop}{a b c:World}(h:G5 X a b)(k:G5 X b c):G5 X a c:=⟨k.os.trans h.os,k.tape.trans h.tape,k.output.trans h.output,Nat.le_trans h.size k.size,λi hi q=>(k.same i (Nat.lt_of_lt_of_le hi h.size) q).trans (h.same i hi q)⟩
theorem Ap{X:Nat->Prop}(w:World)(o:Obj):G5 X w (w.alloc o):=⟨rfl,rfl,rfl,zk,λb q _=>(MapKept.heap_alloc w o).2 b q⟩
theorem JP{X:Nat->Prop}(w:World){r:Nat}(o:Obj)(h:X r):G5 X w (setBlock w r o):=⟨rfl,rfl,rfl,by simp[setBlock],λb A u=>by
 show(w.heap.setIfInBounds r o)[b]? = _;have q:r≠b:=λe=>u (by rw[<-e];exact h)
 rw[agm q]⟩
theorem N8{X:Nat->Prop}(w:World):G5 X w w.drew:=⟨rfl,rfl,rfl,aen _,λ_ _ _=>rfl⟩
def Pz(k:K2):Value:= .agg #[.string k.1,.string k.2]
theorem PC(l:List (K2×Int)):Hc true prog 99 [.vp [.mp (cg bI l)]] [] (l.map λp=>[.agg (bI p.1)]):=by
 refine⟨zo,λlb pr hperm D nu w vargs X hro ha hx hx' hD hSt hJ=>?_⟩;have hX:∀b, ¬X b:=λb h=>br _ _ (hx' b h);obtain⟨x,rfl,hxr⟩:=ik ha;obtain⟨m0,hld,hm⟩:=qv (P:=prog) (T:=70) hro hxr (r:= .mp (cg bI l)) rfl trivial
 obtain⟨bm,es,cl,rfl,hbm,hblk,hsz,hborn,hrise,hkey⟩:∃bm es cl,m0=.map (some bm)∧Fz D nu [] w bm∧w.heap[bm]?=some (.map es cl)∧es.size=l.length∧(∀x∈es.toList,x.born<cl)∧(es.toList.map (·.born)).Nodup∧∀p∈l.zip es.toList,p.2.key=Pz p.1.1:=by
  cases hm with
  |mp _ b es cl h1 h2 h3 h4 h5 h6 h7=>
   have h3':es.size=l.length:=by simpa [cg]using h3
   refine⟨b,es,cl,rfl,h1,h2,h3',λx hx=>?_,?_,λp hp=>?_⟩
   ·obtain⟨i,hi,rfl⟩:=agn hx;exact h5 i _ (by simp at hi⊢)
   ·rw[List.nodup_iff_pairwise_ne,List.pairwise_map,List.pairwise_iff_getElem];intro i j hi hj hij
    have:=h6 i j _ _ (aeB (by simpa using hi)) (aeB (by simpa using hj)) hij
    simp only[Array.getElem_toList];omega
   ·obtain⟨i,hi,rfl⟩:=agn hp;rw[List.getElem_zip]
    have hi1:i<l.length:=by simp at hi;omega
    have hi2:i<es.size:=zd
    have:=h7 i 0 _ _ _ (show(cg bI l)[i]?=some [.agg (bI l[i].1),.v (.int .i64 l[i].2)] by simp[cg,hi1]) rfl (aeB hi2)
    have e:=j0 (xs:=[.string l[i].1.1,.string l[i].1.2]) this;simpa [Pz,Vk]using e
 have hbmD:bm<w.heap.size:=hbm.1;have V:pr.St bm:=(hD bm hbm.1 hbm.2.2).resolve_left (hX bm)
 have hzl:l.length=es.toList.length:=by simpa using hsz.symm
 have hzn:((l.zip es.toList).map (λp=>p.2.born)).Nodup:=by
  have:=K3 hzl
  rw[show(l.zip es.toList).map (λp=>p.2.born)=((l.zip es.toList).map Prod.snd).map (·.born) by simp,this];exact hborn |> λ_=>hrise
 have hJ0:pr.J ((eb (l.zip es.toList) #[]).map λp=>[.agg (bI p.1.1)]) X X w:=by
  have e:eb (l.zip es.toList) #[]=l.zip es.toList:=by rw[eb,List.filter_eq_self];intro p hp;simp
  rw[e,show(l.zip es.toList).map (λp=>[AV.agg (bI p.1.1)])=((l.zip es.toList).map Prod.fst).map λp=>[AV.agg (bI p.1)] by simp,zip_fst hzl];exact hJ
 refine xR (n:=9) (callsIn_of_wp func99 rfl trivial ?_ rfl);simp only[ntmps99,List.size_toArray,List.length_cons,aeq,Nat.reduceAdd,Nat.reduceSub,Array.replicate_succ,Array.replicate_zero,List.push_toArray,List.append_toArray,afJ,afK];have HJ:=Lib.hid hJ0;have HP:=Lib.hid (hperm rfl);have HST:=Lib.hid V;clear hJ hJ0 hperm V;have hwf:(WF none).round=none:=rfl
 have uM:prog.underlying 70=some (.map 74 3):=zo
 clear hro ha hx hx' hxr hm
 gi_wp2_with (first|refine Fh rfl _ _ _ rfl hld ?_|refine CM rfl _ _ _ _ bm es cl rfl uM rfl hblk ?_)
 have hW1:G5 X w (w.alloc (.mapIter (some bm) cl #[] cl)):=Ap w _;have hR1:(w.alloc (.mapIter (some bm) cl #[] cl)).heap[w.heap.size]?=some (.mapIter (some bm) cl #[] cl):=(MapKept.heap_alloc w _).1;have hM1:(w.alloc (.mapIter (some bm) cl #[] cl)).heap[bm]?=some (.map es cl):=((MapKept.heap_alloc w _).2 bm hbmD).trans hblk;have HJ1:=Lib.hid (pr.qU HJ.out hW1 (X':=λb=>b=w.heap.size) (λb hb=>by subst hb;exact⟨zk,.inr (aen _)⟩))
 have hz1:(w.alloc (.mapIter (some bm) cl #[] cl)).heap.size=w.heap.size+1:=zk
 generalize hw1:w.alloc (.mapIter (some bm) cl #[] cl)=w1 at *;clear hw1 hW1 HJ hld
 go_frame
 gi_loopw [3] (λ_ wr=>∃(seen:Array Nat)(c0:Nat)(T:Nat->Prop),wr.heap[w.heap.size]?=some (.mapIter (some bm) cl seen c0)∧wr.heap[bm]?=some (.map es cl)∧cl<=c0∧T w.heap.size∧pr.J ((eb (l.zip es.toList) seen).map λp=>[AV.agg (bI p.1.1)]) (λb=>b=w.heap.size) T wr)
  (λ_ wr=>match wr.heap[w.heap.size]? with|some (.mapIter _ _ seen _)=>(leftOf es seen).size|_=>0)
 case atStart=>
  exact⟨#[],cl,_,hR1,hM1,aen _,.inr ⟨aen _,zd⟩,HJ1.out⟩
 case round=>
  obtain⟨seen,c0,T,hr,hb,hc,hT,hj⟩:=hrel;have HJR:=Lib.hid hj;clear hj HJ1
  gi_wp2_with (refine Fi rfl _ rfl _ bm cl c0 seen es cl rfl hr hb hborn hc ?_ ?_)
  ·intro h0
   gi_wp2_with fail
   go_end0
   have hnil:eb (l.zip es.toList) seen=[]:=Mt λp hp=>all_seen es seen h0 p.2 (List.of_mem_zip hp).2;have hje:=HJR.out;rw[hnil,List.map_nil]at hje;exact⟨⟨_,rfl⟩,_,_,.inl hje⟩
  ·intro e U he H;obtain⟨hee,hes⟩:=mem_left he;obtain⟨i,hi,hie⟩:=agn hee
   have hil:i<l.length:=zd
   have hpz:(l[i],e)∈l.zip es.toList:=by
    refine List.mem_iff_getElem.2 ⟨i,ahy,?_⟩;rw[List.getElem_zip,hie]
   have hk:=hkey _ hpz
   have hs2:U.heap.size=wr.heap.size:=by rcases H with rfl|rfl<;>simp[setBlock]
   have hrs:w.heap.size<wr.heap.size:=(aer.1 hr).1
   have Y:U.heap[w.heap.size]?=some (.mapIter (some bm) cl (seen.push e.born) cl):=by
    rcases H with rfl|rfl<;>simp[setBlock,hrs]
   have hb2:U.heap[bm]?=some (.map es cl):=by
    have hne:w.heap.size≠bm:=zd
    rcases H with rfl|rfl<;>(show(wr.heap.setIfInBounds _ _)[bm]? = _;rw[agm hne];exact hb)
   have ha2:G5 (λb=>b=w.heap.size) wr U:=by
    rcases H with rfl|rfl
    ·exact JP _ _ rfl
    ·exact(N8 wr).trans (JP _ _ rfl)
   have A:=run_entry_at (P:=prog) U w.heap.size bm cl seen es cl e Y hb2 hee hrise;have hj1:=HP.out _ _ _ _ _ ((yE hzn hpz hes).map λp=>[AV.agg (bI p.1.1)]) HJR.out;rw[aga]at hj1;have hlt:=left_shrinks es seen e he;have HJ2:=Lib.hid hj1;have HA2:=Lib.hid ha2;have HS2:=Lib.hid hs2;have HR2:=Lib.hid Y;have HB2:=Lib.hid hb2;clear hj1 ha2 H he HJR hs2 Y hb2;rw[hk]at A⊢;simp only[Pz]at A⊢;generalize l[i].1=k at *
   obtain⟨hA3,hR3,hM3,hz3⟩:G5 (λb=>b=w.heap.size) wr (U.alloc (.cells #[.string k.1,.string k.2] 74))∧(U.alloc (.cells #[.string k.1,.string k.2] 74)).heap[w.heap.size]?=some (.mapIter (some bm) cl (seen.push e.born) cl)∧(U.alloc (.cells #[.string k.1,.string k.2] 74)).heap[bm]?=some (.map es cl)∧wr.heap.size<(U.alloc (.cells #[.string k.1,.string k.2] 74)).heap.size:=by
    have:=HS2.out
    exact⟨HA2.out.trans (Ap _ _),((MapKept.heap_alloc _ _).2 _ zd).trans HR2.out,((MapKept.heap_alloc _ _).2 _ zd).trans HB2.out,ahy⟩
   have hj3:=pr.qU HJ2.out hA3 (X':=λb=>b=w.heap.size) (λb hb=>by subst hb;exact⟨zd,.inl rfl⟩)
   obtain⟨fn,tmps,assign,body,hy,hR⟩:=pr.round (x:=[.agg (bI k)]) (D:=λ_=>False) (nu:=nu) (vals:= #[.agg #[.string k.1,.string k.2]]) hj3 ⟨rfl,λi c x h1 h2=>by
    match i,h1,h2 with
    |0,h1,h2=>cases h1;cases h2;exact .agg _ _ rfl (λj c x W q2=>by
     match j,W,q2 with
     |0,W,q2=>cases W;cases q2;exact .v _
     |1,W,q2=>cases W;cases q2;exact .v _
     |j+2,W,q2=>simp[bI]at W) (λj x q=>by
     match j,q with
     |0,q=>cases q;rfl
     |1,q=>cases q;rfl
     |j+2,q=>simp at q)
    |i+1,h1,h2=>simp at h1⟩ rfl (λb _ h=>h.elim)
   have HR:=Lib.hid hR;have HR3:=Lib.hid hR3;have HRR:=Lib.hid hr;have HM3:=Lib.hid hM3;have HZ3:=Lib.hid hz3;clear hR hR3 hM3 hz3 hj3 hA3 hr hb HA2 HB2 HR2 HS2 HJ2
   gi_wp2_with (refine CH rfl _ rfl _ _ rfl A ?_)
   clear A;refine HR.out.mono ?_
   rintro e2 w4 ⟨u,⟨rfl,O⟩|⟨rfl,O⟩⟩
   ·have HJ4:=Lib.hid O;have HK4:=Lib.hid u;clear O u hy
    gi_wp2_with fail
    go_roundw
    case rel=>
     have u:=HK4.out
     have:=HZ3.out
     refine⟨seen.push e.born,cl,_,(u.same _ zd (.inl (.inl hT))).trans HR3.out,(u.same _ zd (.inr HST.out)).trans HM3.out,aen _,.inl hT,HJ4.out⟩
    case measure=>
     have u:=HK4.out
     have:=HZ3.out
     rw[HRR.out,(u.same _ zd (.inl (.inl hT))).trans HR3.out];exact hlt
   ·have HJ4:=Lib.hid O;clear O u hy
    gi_wp2_with fail
    refine bodyPost_ret (results_none rfl _ _ _) rfl ?_;exact⟨⟨_,rfl⟩,_,_,.inr HJ4.out⟩
mutual
theorem vi{f:Nat->Nat}{m:Nat}(q:∀k,k<m->f k=k):∀a:AV,a.wf m=true->a.ba f=a
 | .undef,_=>rfl
 | .v _,_=>rfl
 | .agg cs,h=>by rw[AV.ba,jT q cs h]
 | .ck cs,h=>by rw[AV.ba,jT q cs h]
 | .aB z rows len,h=>by rw[AV.ba,xl q rows h]
 | .vp cs,h=>by rw[AV.ba,jT q cs h]
 | .ptr id _ _ _ _,h=>by simp[AV.wf]at h;rw[AV.ba,q id h]
 | .vec id _,h=>by simp[AV.wf]at h;rw[AV.ba,q id h]
 | .fn g a b,h=>by
  simp only[AV.wf,ae6]at h;rw[AV.ba,jT q a h.1,jT q b h.2]
 | .full a,h=>by rw[AV.ba,vi q a h]
 | .jw p a,h=>by rw[AV.ba,vi q a h]
 | .mp rows,h=>by rw[AV.ba,xl q rows h]
theorem jT{f:Nat->Nat}{m:Nat}(q:∀k,k<m->f k=k):∀l:C5,aU m l=true->bV f l=l
 | [],_=>rfl
 |a::l,h=>by
  simp only[aU,ae6]at h;rw[bV,vi q a h.1,jT q l h.2]
theorem xl{f:Nat->Nat}{m:Nat}(q:∀k,k<m->f k=k):∀l:List C5,bD m l=true->cm f l=l
 | [],_=>rfl
 |a::l,h=>by
  simp only[bD,ae6]at h;rw[cm,jT q a h.1,xl q l h.2]
end
theorem u9{f:Nat->Nat}{m:Nat}(q:∀k,k<m->f k=k):∀l:AC,(∀ob,some ob∈l->bD m ob.rows=true)->l.map (Option.map (aa.ba f))=l
 | [],_=>rfl
 |none::l,h=>by rw[aga,u9 q l (λob u=>h ob (ae7 _ u))];rfl
 |some ob::l,h=>by
  rw[aga,u9 q l (λob u=>h ob (ae7 _ u)),Option.map_some,aa.ba,xl q _ (h ob List.mem_cons_self)]
theorem tJ(f:Nat->Nat):∀(l X pre post:AC),l.length=X.length->fj f (List.range' pre.length l.length) l (pre++X++post)=pre++l.map (Option.map (aa.ba f))++post
 | [],[],pre,post,_=>by simp[fj]
 | [],_::_,_,_,h=>by simp at h
 |_::_,[],_,_,h=>by simp at h
 |a::l,b::X,pre,post,h=>by
  rw[List.length_cons,List.range'_succ,fj]
  have q:(pre++b::X++post).set pre.length (a.map (aa.ba f))=(pre++[a.map (aa.ba f)])++X++post:=by
   rw[List.append_assoc,ago _ _ (aen _),afc,afK,List.set_cons_zero];simp
  rw[q]
  have:=tJ f l X (pre++[a.map (aa.ba f)]) post (by simpa using h)
  rw[List.length_append,List.length_singleton]at this;rw[this];simp
theorem ai.sub{P:Program}{f:FuncId}{args:C5}{o0 o1 post:AC}{H:AV}{K:AV->AC->Prop}(h:bR P f args o0 H o1)(hl:o1.length=o0.length)
  (u:aU o0.length args=true)(A:∀ob,some ob∈o0->bD o0.length ob.rows=true)(U:∀ob,some ob∈o1->bD o0.length ob.rows=true)(W:H.wf o0.length=true)(k:K H (o1++post)):ai P f args (o0++post) K:=by
 have O:∀j,j<o0.length->sig (List.range' 0 o0.length) (o0++post).length j=j:=λj q=>by
  rw[sig,if_pos (by simpa using q),ae2,agp q];simp
 refine ai.fr (List.range' 0 o0.length) h List.nodup_range' ?_ (jT O _ u).symm (by rw[agq];exact u) (λj ob q=>by rw[agq];exact A ob (aeQ q)) ?_
 ·have e:o0.map (λx=>some (x.map (aa.ba (sig (List.range' 0 o0.length) (o0++post).length))))=o0.map some:=by
   have V:o0.map some=(o0.map (Option.map (aa.ba (sig (List.range' 0 o0.length) (o0++post).length)))).map some:=by rw[u9 O o0 A]
   rw[V,List.map_map];rfl
  rw[e];refine agr zk λj V Y=>?_
  have q:j<o0.length:=by simpa using Y
  simp only[ags,List.getElem_range',Nat.zero_add,Nat.one_mul];rw[aet q,aeC q]
 ·have e:=tJ (sig (List.range' 0 o0.length) (o0++post).length) o1 o0 [] post hl;rw[aeq,hl,afJ,afJ]at e;rw[e,vi O H W,u9 O o1 U];exact k
theorem dQ.sub{P:Program}{f:FuncId}{args:C5}{o0 o1 post:AC}{H:AV}{K:AV->AC->Prop}(h:bR P f args o0 H o1)(hl:o1.length=o0.length)
  (u:aU o0.length args=true)(A:∀ob,some ob∈o0->bD o0.length ob.rows=true)(U:∀ob,some ob∈o1->bD o0.length ob.rows=true)(W:H.wf o0.length=true)(k:K H (o1++post)):dQ P f args (o0++post) K:=by
 have O:∀j,j<o0.length->sig (List.range' 0 o0.length) (o0++post).length j=j:=λj q=>by
  rw[sig,if_pos (by simpa using q),ae2,agp q];simp
 refine dQ.fr (List.range' 0 o0.length) h List.nodup_range' ?_ (jT O _ u).symm (by rw[agq];exact u) (λj ob q=>by rw[agq];exact A ob (aeQ q)) ?_
 ·have e:o0.map (λx=>some (x.map (aa.ba (sig (List.range' 0 o0.length) (o0++post).length))))=o0.map some:=by
   have V:o0.map some=(o0.map (Option.map (aa.ba (sig (List.range' 0 o0.length) (o0++post).length)))).map some:=by rw[u9 O o0 A]
   rw[V,List.map_map];rfl
  rw[e];refine agr zk λj V Y=>?_
  have q:j<o0.length:=by simpa using Y
  simp only[ags,List.getElem_range',Nat.zero_add,Nat.one_mul];rw[aet q,aeC q]
 ·have e:=tJ (sig (List.range' 0 o0.length) (o0++post).length) o1 o0 [] post hl;rw[aeq,hl,afJ,afJ]at e;rw[e,vi O H W,u9 O o1 U];exact k
section
variable {D:Nat->Prop} {nu:EQ} {o:AC} {w:World} {P:Program}
theorem fM{s:AS}{k i j id len:Nat}{ob ob2:aa}{row:C5}(hne:id≠k)(hk:s.o[k]?=some (some ob))(hz:0<ob.z)(hr:ob.rows[i]?=some row)(hj:row[j]?=some (.vec id len))(ho:s.o[id]?=some (some ob2))(hv:ob2.fe=true)(hl:ob2.rows.length=len) :
  Ee s (AS.mk s.t ((s.o.set id none).set k (some {ob with rows:=ob.rows.set i (row.set j (.aB ob2.z ob2.rows len))})) s.y):=by
 intro f D nu a w hs;have hp:=fh (nu:=nu) (o:=s.o) (w:=w) id;have hro:=nU hs.ro id
 have Y:(s.o.set id none)[k]?=some (some ob):=by rw[aeH hne];exact hk
 have hh:ob.hl=({ob with rows:=ob.rows.set i (row.set j (.aB ob2.z ob2.rows len))}:aa).hl:=by simp[aa.hl]
 obtain⟨g,cur,u⟩:∃g cur,B1 D nu (s.o.set id none) w k ob g cur:=by
  rcases hro.obj k ob Y with⟨_,e,_⟩|h|⟨g,es,cl,W⟩
  ·rw[e]at hr;simp at hr
  ·exact h
  ·have:=W.z;omega
 have W:=ko (nu:=nu) (o:=s.o.set id none) (w:=w) (w':=w) (ob':={ob with rows:=ob.rows.set i (row.set j (.aB ob2.z ob2.rows len))}) Y hh.symm u.b7 rfl rfl rfl rfl (λ_ _=>rfl);refine⟨nu,hp.trans W,rfl,?_,(hs.tm.mono hp (λ_ _ h=>h)).mono W (λ_ _ h=>h),hs.mb⟩;have hil:=(aeu.1 hr).1;have hjl:=(aeu.1 hj).1;have hsl:=mo hs.ro ho hv;rw[hl]at hsl
 have key:∀(q A:Nat)r c,(ob.rows.set i (row.set j (.aB ob2.z ob2.rows len)))[q]?=some r->r[A]?=some c->∃r0 c0,ob.rows[q]?=some r0∧r0[A]?=some c0∧(c=c0∨(c=.aB ob2.z ob2.rows len∧c0=.vec id len)):=by
  intro q A r c U O
  by_cases hi:i=q
  ·subst hi;rw[aeG hil]at U;cases U
   by_cases hj':j=A
   ·subst hj';rw[aeG hjl]at O;cases O;exact⟨row,_,hr,hj,.inr ⟨rfl,rfl⟩⟩
   ·rw[aeH hj']at O;exact⟨row,c,hr,O,.inl rfl⟩
  ·rw[aeH hi]at U;exact⟨r,c,U,O,.inl rfl⟩
 refine sb hro Y hh.symm u.b7 W (λ_ _=>rfl) (cur:=cur) ⟨u.e9,u.oR,λV=>?_,λV=>?_,u.z,λq r H=>?_,λq A r c x U O h3=>?_,λq A r c x U O h3=>?_⟩
 ·obtain⟨q1,q2,q3⟩:=u.box V;exact⟨q1,by simpa using q2,q3⟩
 ·obtain⟨cap,q1,q2,q3,q4⟩:=u.vec V;exact⟨cap,by simpa using q1,by simpa using q2,q3,q4⟩
 ·by_cases hi:i=q
  ·subst hi;rw[aeG hil]at H;cases H;rw[List.length_set];exact u.row i row hr
  ·rw[aeH hi]at H;exact u.row q r H
 ·obtain⟨r0,c0,k1,k2,e⟩:=key q A r c U O;have h0:=u.cell q A r0 c0 x k1 k2 h3
  rcases e with rfl|⟨rfl,rfl⟩
  ·exact h0.mono W (λ_ _ h=>h)
  ·have hx:x=nu id len:=by
    cases h0 with
    |vec=>rfl
   rw[hx];exact hsl.mono W (λ_ _ h=>h)
 ·obtain⟨r0,c0,k1,k2,_⟩:=key q A r c U O;exact u.one q A r0 c0 x k1 k2 h3
end
section
variable {o:AC}
theorem so.U0{id len:Nat}{ob:aa}(ho:o[id]?=some (some ob))(hv:ob.fe=true)(hl:ob.rows.length=len){rows':List C5}(hlen:rows'.length=ob.rows.length)
  (hr:∀(i:Nat)row row',ob.rows[i]?=some row->rows'[i]?=some row'->row'.length=row.length∧∀(j:Nat)c u,row[j]?=some c->row'[j]?=some u->so o c u):so o (.vec id len) (.aB ob.z rows' len):=λD nu w x W hra=>by
 have hx:x=nu id len:=by
  cases hra with
  |vec=>rfl
 subst hx;subst hl
 have get:∀(i:Nat)row',rows'[i]?=some row'->∃row,ob.rows[i]?=some row∧row'.length=row.length∧∀(j:Nat)u,row'[j]?=some u->∃c,row[j]?=some c∧so o c u:=λi row' h=>by
  grind
 rcases W.obj id ob ho with⟨e1,e2,e3⟩|⟨g,cur,A⟩|⟨g,es,cl,hmp⟩
 rotate_left 2
 ·rw[hmp.fe]at hv;cases hv
 ·rw[e2]at hlen⊢;obtain rfl:=List.eq_nil_of_length_eq_zero hlen;simp only[aeq];rw[e3];exact .b5 _
 ·obtain⟨cap,q1,q2,q3,q4⟩:=A.vec hv;have Y:owned nu o g:=⟨id,ob,ho,A.b7⟩;rw[q1]
  have q:∀(i j:Nat)row c,ob.rows[i]?=some row->row[j]?=some c->cur[i*ob.z+j]?=some (cur.getD (i*ob.z+j) Go.undef):=λi j row c O V=>by
   have:=A.qV O (aeu.1 V).1
   simp_all
  refine .aB _ _ _ g 0 cap (λi j=>cur.getD (i*ob.z+j) Go.undef) zd zd q3 (λ_=>⟨(aer.1 A.e9).1,br _ _,Y⟩) (λi row' O=>?_) (λi j row' u O V=>?_) (λi j row' u O V=>?_) (λi j row' u O V=>?_)
  ·obtain⟨row,H,r2,_⟩:=get i row' O;rw[r2];exact A.row i row H
  all_goals
   obtain⟨row,H,r2,r3⟩:=get i row' O;obtain⟨c,U,r5⟩:=r3 j u V
  ·rw[<-q i j row c H U]
   have:=A.e9
   grind[World.cell?]
  ·exact r5 D nu w _ W (A.cell i j row c _ H U (q i j row c H U))
  ·exact A.one i j row c _ H U (q i j row c H U)
end
def dK(N:Nat)(g:Nat->Bool):List C5:=(List.range N).map (λj=>[.v (.bool (g j))])
def mC(N:Nat)(f:GT):List C5:=(List.range N).map (λi=>[.aB 1 (dK N (f i)) N])
def mV(k i:Nat):Nat:=k+1+2*i
def bu(k N m:Nat):List C5:=(List.range m).map (λi=>[.vec (mV k i) N])
def l6(N:Nat)(g:Nat->Bool):Option aa:=some ⟨4,1,true,dK N g⟩
def bA(N:Nat)(f:GT)(m:Nat):AC:=(List.range m).flatMap (λi=>[l6 N (f i),none])
def cA(k N m:Nat)(f:GT):AC:=some ⟨121,1,true,bu k N m⟩ ::bA N f m
theorem kY(N:Nat)(g:Nat->Bool):(dK N g).length=N:=by simp[dK]
theorem w9(N:Nat)(f:GT):(mC N f).length=N:=by simp[mC]
theorem dC(k N m:Nat):(bu k N m).length=m:=by simp[bu]
theorem ah(N:Nat)(f:GT)(m:Nat):(bA N f m).length=2*m:=by
 induction m with
 |zero=>rfl
 |succ m ih=>grind[bA,agt,List.length_append]
theorem gd(N:Nat)(f:GT)(m:Nat):bA N f (m+1)=bA N f m++[l6 N (f m),none]:=by
 grind[bA,agt]
theorem fy(k N m:Nat):bu k N (m+1)=bu k N m++[[.vec (mV k m) N]]:=by rw[bu,agt,List.map_append];rfl
theorem dS{N j:Nat}{g:Nat->Bool}(h:j<N):(dK N g).getD j []=[.v (.bool (g j))]:=by
 grind[dK,aeF]
theorem u6{N i:Nat}{f:GT}(h:i<N):(mC N f).getD i []=[.aB 1 (dK N (f i)) N]:=by
 grind[mC,aeF]
theorem lI{k N m i:Nat}(h:i<m):(bu k N m).getD i []=[.vec (mV k i) N]:=by
 grind[bu,aeF]
theorem oG{N:Nat}{g h:Nat->Bool}(e:∀j,j<N->g j=h j):dK N g=dK N h:=by
 refine agu λj q=>?_
 grind
theorem Wu{N:Nat}{g h:GT}(e:∀i j,i<N->j<N->g i j=h i j):mC N g=mC N h:=by
 refine agu λi hi=>?_
 grind[oG]
theorem gU{N m:Nat}{g h:GT}(e:∀i j,i<m->j<N->g i j=h i j):bA N g m=bA N h m:=by
 grind[bA,agu,l6,oG]
theorem lu(N:Nat):List.replicate N [AV.v (.bool false)]=dK N (λ_=>false):=by
 refine agr (by simp[dK]) λi u q=>by simp[dK]
theorem uV{N:Nat}{f:GT}:∀{m i:Nat},i<m->(bA N f m)[2*i]?=some (l6 N (f i))
 |0,_,h=>zd
 |m+1,i,h=>by
  rw[gd]
  by_cases hi:i<m
  ·rw[aet (by rw[ah];omega)];exact uV hi
  ·obtain rfl:i=m:=zd
   rw[List.getElem?_append_right (by grind[ah]),ah,afc];rfl
theorem mO{k N m i:Nat}{f:GT}{x:Option aa}(h:i<m):(x::bA N f m)[mV 0 i]?=some (l6 N (f i)):=by
 grind[mV,List.getElem?_cons_succ,uV]
def oH(f:GT)(i j:Nat)(v:Bool):GT:=λp q=>if p=i∧q=j then v else f p q
theorem tU{N j:Nat}{g:Nat->Bool}{v:Bool}:(dK N g).set j [.v (.bool v)]=dK N (λq=>if q=j then v else g q):=by
 refine agr (by simp[dK]) λq A u=>?_;rw[List.getElem_set];simp only[dK,ags,List.getElem_range]
 grind
theorem AN{N:Nat}{f:GT}{j:Nat}{v:Bool}:∀{m i:Nat},i<m->(bA N f m).set (2*i) (some ⟨4,1,true,(dK N (f i)).set j [.v (.bool v)]⟩)=bA N (oH f i j v) m
 |0,_,h=>zd
 |m+1,i,h=>by
  rw[gd,gd]
  by_cases hi:i<m
  ·have e:l6 N (oH f i j v m)=l6 N (f m):=by
    rw[l6,l6,oG (λq _=>by rw[oH,if_neg zd])]
   rw[List.set_append_left _ _ (by rw[ah];omega),AN hi,e]
  ·obtain rfl:i=m:=zd
   rw[ago _ _ (by grind[ah]),ah,afc,List.set_cons_zero];rw[gU (g:=oH f i j v) (h:=f) (λp q u _=>by rw[oH,if_neg zd])]
   congr 2
   rw[l6,tU]
   congr 2
   refine oG λq _=>?_;rw[oH]
   grind
theorem pO{N m i j:Nat}{f:GT}{v:Bool}{x:Option aa}(h:i<m):(x::bA N f m).set (mV 0 i) (some ⟨4,1,true,(dK N (f i)).set j [.v (.bool v)]⟩)=x::bA N (oH f i j v) m:=by
 grind[mV,AN]
theorem bp(n N:Nat)(g:Nat->Bool):bD n (dK N g)=true:=bw _ (λ_=>rfl) _
theorem gM(n N:Nat)(f:GT):bD n (mC N f)=true:=bw _ (λi=>by grind[aU,AV.wf,bp,Bool.and_self]) _
attribute [go_sem] bp gM kY w9 dC
theorem GF(n:Nat):∀(a:List C5)(b:C5),bD n (a++[b])=(bD n a&&aU n b)
 | [],b=>by simp[bD]
 |x::a,b=>by simp only[afK,bD,GF n a b,Bool.and_assoc]
theorem lX{n k N:Nat}:∀{m:Nat},k+2*m<=n->bD n (bu k N m)=true
 |0,_=>rfl
 |m+1,h=>by
  rw[fy,GF,lX zd]
  have q:mV k m<n:=by unfold mV;omega
  simp[bD,aU,AV.wf,q]
theorem ti(N:Nat)(f:GT):so (cA 0 N N f) (.vec 0 N) (.aB 1 (mC N f) N):=by
 refine so.U0 (ob:=⟨121,1,true,bu 0 N N⟩) rfl rfl (dC _ _ _) (by grind[w9,dC]) λi row row' H A=>?_
 have hi:i<N:=by grind[aeu,dC]
 have U:(bu 0 N N)[i]?=some [.vec (mV 0 i) N]:=by grind[bu,aeF]
 have O:(mC N f)[i]?=some [.aB 1 (dK N (f i)) N]:=by grind[mC,aeF]
 cases(aem (U.symm.trans H));cases(aem (O.symm.trans A));refine⟨rfl,λj c W q u=>?_⟩
 match j,q,u with
 |0,q,u=>
  cases q;cases u;exact so.vec (ob:=⟨4,1,true,dK N (f i)⟩) (mO (k:=0) hi) rfl (kY _ _) (Be _ (λs c V=>by grind) _)
 |j+1,q,u=>simp at q
end
end Go.Proofs.YtlhhccmopfamhaaGreatDoor
