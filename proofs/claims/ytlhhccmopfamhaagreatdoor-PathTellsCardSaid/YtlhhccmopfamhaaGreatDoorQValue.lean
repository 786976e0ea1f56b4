/- texts of one claim, one behind the other. -/
import Derived.Test.YtlhhccmopfamhaaGreatDoorQFen
import Derived.Test.YtlhhccmopfamhaaGreatDoorQAbsS
import Derived.OrdersIn
import Derived.ChangeArms
import Derived.Deep.Slices
import Derived.KernelRfl
import Derived.SizedLaws
import Derived.Test.YtlhhccmopfamhaaGreatDoorProg
import Derived.Test.YtlhhccmopfamhaaGreatDoorRows
import Derived.WalkKit
import Derived.ProofKit
import Derived.OpenShut
import Derived.RangeFuncNested
import Derived.RangeFuncBound
import Derived.RangeFuncCalls
import Derived.RangeFuncLeaves
import Derived.Shelf.Abstract
import Derived.Shelf.RegionOpen
import Derived.OwnWalkIn
import Derived.TacticsInMore
import Derived.LoopNIn
import Derived.LoopIn
import Derived.Maps.AppendAt
set_option linter.unusedSimpArgs false
set_option linter.unusedVariables false
set_option maxRecDepth 100000
set_option maxHeartbeats 16000000
open Array renaming getD_eq_getD_getElem? -> afd, getElem?_eq_getElem -> aeB, any_eq_true' -> afe, all_eq_true_iff_forall_mem -> afl, getElem?_eq_some_iff -> aer
open Bool renaming and_eq_true -> ae6, or_eq_true -> afk, and_true -> afo, true_and -> afu
open List renaming getElem?_eq_some_iff -> aeu, range'_succ -> afg, all_eq_true -> afh, mem_range -> afi, size_toArray -> afj, getElem?_toArray -> aeD, getElem?_eq_getElem -> aeC, singleton_append -> afn, length_eq_zero_iff -> afp, mem_of_getElem? -> aeQ, getElem?_map -> aeE, mem_cons_of_mem -> ae7, mem_cons_self -> afr, length_append -> aew, exists_cons_of_ne_nil -> afs, findIdx?_eq_some_iff_getElem -> afv, findIdx?_eq_none_iff -> afw
open Nat renaming lt_or_ge -> aes, sub_self -> afc, le_refl -> aen, lt_trichotomy -> aff, zero_le -> aex, le_of_lt -> afm
open Option renaming bind_eq_some_iff -> afq
namespace Go.Proofs.YtlhhccmopfamhaaGreatDoor
open Go.RowKit
open Go.Proofs.Tryz
section
variable {P:Program} {ops:Array Oper}
def Qk(ops:Array Oper)(m i j:Nat):Bool:=
 match ops[i]?,ops[j]? with
 |some oi,some oj=>(decide (m<=j)||bb ops j i||oi.apart ops oj) && !bb ops i j&&(match oi.dst with|some d=>oj.dst !=some d|none=>true)&&(decide (m<=j)||match oj.dst with|some d=> !(oi.looksAt ops).contains d|none=>true)
 |_,_=>true
def ia(ops:Array Oper)(m:Nat):Bool:=
 Region.noSelect ops&&decide (m<ops.size)&&(List.range ops.size).all (λj=>(List.range j).all (λi=>Qk ops m i j)&&(!bb ops j j&&LV ops j)) &&
 (List.range ops.size).all (λt=>decide (t<m)||(List.range t).all (λi=>(List.range (t+1)).any (λi'=>decide (i<i')&&bb ops i' i)))
def qM(st:Nat->(Act->World->Prop)->Act->World->Prop)(ops:Array Oper)(E:Act->World->Prop):Nat->Array Bool->Act->World->Prop
 |0,listed,a,w=>Region.ready .any ops listed=[]∧E a w
 |fuel+1,listed,a,w=>(Region.ready .any ops listed=[]->E a w)∧∀i∈Region.ready .any ops listed,st i (qM st ops E fuel (listed.setIfInBounds i true)) a w
def tZ(st:Nat->(Act->World->Prop)->Act->World->Prop)(E:Act->World->Prop):Do->Act->World->Prop
 | []=>E
 |i::r=>st i (tZ st E r)
structure Sq(P:Program)(ops:Array Oper)(st:Nat->(Act->World->Prop)->Act->World->Prop):Prop where
 mono:∀{i:Nat}{K K':Act->World->Prop}{a:Act}{w:World},(∀a w,K a w->K' a w)->st i K a w->st i K' a w
 of:∀{i:Nat}{o:Oper}{S:Spec}{K:Act->World->Prop}{a:Act}{w:World},ops[i]?=some o->vH P ops S o a w->(∀v w2,S.p v w2->Below w.heap.size w w2->K (a.put o.dst v) w2)->st i K a w
theorem K0{Q:Exit->Act->World->Prop}:∀(fuel:Nat)(listed:Array Bool)(a:Act)(w:World),qM (wpOp P ops Q) ops (Q .normal) fuel listed a w->wpAny P .any ops Q fuel listed a w
 |0,_,_,_,h=>h
 |fuel+1,_,_,_,h=>⟨h.1,λi hi=>wpOp_mono (λ_ _=>K0 fuel _ _ _) (h.2 i hi)⟩
theorem K1{Q:Exit->Act->World->Prop}:∀l:Do,wpOps P ops Q l=tZ (wpOp P ops Q) (Q .normal) l
 | []=>by funext a w;simp[wpOps,tZ]
 |i::l=>by funext a w;rw[wpOps_cons,K1 l];rfl
theorem UQ(Q:Exit->Act->World->Prop):Sq P ops (wpOp P ops Q):=⟨λh k=>wpOp_mono h k,λ{i o S K a w}hi h next=>by
 unfold wpOp;simp only[hi]
 rcases h with⟨A,q⟩|⟨A,q⟩
 ·rw[if_pos A];refine .inl ?_;unfold Oper.wp;generalize(execOp a.eval o).run P w=r at q
  cases r with
  |halt _ _=>exact q.elim
  |ok n w'=>
   cases n<;>first|exact q.elim|skip
   case value u=>exact next _ _ q.1 q.2
   case skip=>exact next _ _ q.1 q.2
   case enter f args=>
    refine Calls.mono q λe w'' H=>?_
    grind
 ·rw[if_neg (by grind)]
  grind[Below.refl]⟩
def Gq(P:Program)(ops:Array Oper)(Q:Exit->Act->World->Prop)(k:Nat):Act->World->Prop:=wpOps P ops Q (List.range' k (ops.size-k))
def qD(P:Program)(ops:Array Oper)(L:WP)(w0:World)(T:Nat->Act->World->Prop):GE->Nat->((Nat->Value)->Act)->Prop
 | [],k,A=>∀x w,Below w0.heap.size w0 w->(∀i,i<k->(at' L i).p (x i) w)->T k (A x) w
 |o::l,k,A=>(∀x w,Below w0.heap.size w0 w->(∀i,bb ops k i=true->(at' L i).p (x i) w)->vH P ops (at' L k) o (A x) w)∧qD P ops L w0 T l (k+1) (λx=>(A x).put o.dst (x k))
def XH(b:Bool)(n:Nat)(S:Spec):Spec:=⟨λv w=>S.p v w∧(b=true->∀k,cW v=some k->n<=k),λv w w' hb h=>⟨S.st v w w' hb h.1,h.2⟩⟩
def tO(P:Program)(ops:Array Oper)(L:WP)(fr:Nat->Bool)(w0:World)(T:Nat->Act->World->Prop):GE->Nat->((Nat->Value)->Act)->Prop
 | [],k,A=>∀x w,Below w0.heap.size w0 w->(∀i,i<k->(at' L i).p (x i) w)->(∀i j,i<k->j<k->i≠j->fr i=true->fr j=true->∀b,cW (x i)=some b->cW (x j)≠some b)->T k (A x) w
 |o::l,k,A=>(∀x w,Below w0.heap.size w0 w->(∀i,bb ops k i=true->(at' L i).p (x i) w)->(∀i j,bb ops k i=true->bb ops k j=true->i≠j->fr i=true->fr j=true->∀b,cW (x i)=some b->cW (x j)≠some b)->vH P ops (XH (fr k) w.heap.size (at' L k)) o (A x) w)∧tO P ops L fr w0 T l (k+1) (λx=>(A x).put o.dst (x k))
theorem vH.XH{S:Spec}{o:Oper}{a:Act}{w:World}{n:Nat}(h:vH P ops S o a w):vH P ops (XH false n S) o a w:=by
 rcases h with⟨A,q⟩|⟨A,q⟩
 ·refine .inl ⟨A,?_⟩
  revert q
  generalize(execOp a.eval o).run P w=r;intro q
  cases r with
  |halt _ _=>exact q.elim
  |ok n w'=>
   cases n<;>first|exact q.elim|skip
   case value u=>exact⟨⟨q.1,λh=>by cases h⟩,q.2⟩
   case skip=>exact⟨⟨q.1,λh=>by cases h⟩,q.2⟩
   case enter f args=>
    refine Calls.mono q λe w'' O=>?_;obtain⟨v,rfl,H,U⟩:=O;exact⟨v,rfl,⟨H,λh=>by cases h⟩,U⟩
 ·exact .inr ⟨A,q,λh=>by cases h⟩
theorem oy{L:WP}{w0:World}{T:Nat->Act->World->Prop}:∀(l:GE)(k:Nat)(A:(Nat->Value)->Act),qD P ops L w0 T l k A->tO P ops L (λ_=>false) w0 T l k A
 | [],k,A,h=>λx w u q _=>h x w u q
 |o::l,k,A,h=>⟨λx w u q _=>(h.1 x w u q).XH,oy l (k+1) _ h.2⟩
theorem wb{l:GE}{L:WP}{fr:Nat->Bool}{w0:World}{T:Nat->Act->World->Prop}{a0:Act}(hA:uk l){m0:Nat}(hm:m0<=l.length):∀(U:GE)(k:Nat)(A:(Nat->Value)->Act),(l.take m0).drop k=U->k<=m0->(A=λx=>il (λi=>decide (i<k)) x l 0 a0) ->
  tO P l.toArray L fr w0 T U k A->(∀j o,k<=j->j<m0->l[j]?=some o->∀x w,Below w0.heap.size w0 w->(∀i,bb l.toArray j i=true->(at' L i).p (x i) w)->(∀i V,bb l.toArray j i=true->bb l.toArray j V=true->i≠V->fr i=true->fr V=true->∀b,cW (x i)=some b->cW (x V)≠some b)->vH P l.toArray (XH (fr j) w.heap.size (at' L j)) o (il (λi=>decide (i<j)) x l 0 a0) w)∧∀x w,Below w0.heap.size w0 w->(∀i,i<m0->(at' L i).p (x i) w)->(∀i j,i<m0->j<m0->i≠j->fr i=true->fr j=true->∀b,cW (x i)=some b->cW (x j)≠some b)->T m0 (il (λi=>decide (i<m0)) x l 0 a0) w
 | [],k,A,hl,hk,q,h=>by
  have u:k=m0:=by have:=congrArg List.length hl;grind
  subst u;subst q;refine⟨λj o u O=>zd,λx w u O h3=>?_⟩
  have:=h x w u O h3
  omega
 |o::U,k,A,hl,hk,q,h=>by
  have u:k<m0:=by grind
  have O:l[k]?=some o:=by
   have:=congrArg (λm=>m[0]?) hl
   grind
  subst q
  have H:=wb hA hm U (k+1) _ (by have:=congrArg List.tail hl;simpa using this) u (by
   funext x
   have hi:=qG (s:=λi=>decide (i<k)) (x:=x) (v:=x k) l 0 k a0 hA O zk;rw[Nat.zero_add]at hi;rw[<-hi];refine dp l 0 a0 (λi _ _=>?_)
   grind[fm,oJ]) h.2
  refine⟨λj o' hj hjm Y=>?_,H.2⟩
  by_cases W:j=k
  ·subst W;rw[O]at Y;cases Y;exact h.1
  grind
theorem Gv{s:Nat->Bool}:∀n m,m<=n->(∀i,m<=i->i<n->s i=false)->n-m<=GW s n
 |0,m,_,_=>zd
 |n+1,m,h,u=>by
  rcases aes n m with q|q
  ·omega
  ·have:=Gv (s:=s) n m q (λi A H=>u i A zd)
   rw[GW,u n q zd];simp;omega
theorem Rt{l:GE}{m0:Nat}{st:Nat->(Act->World->Prop)->Act->World->Prop}{E:Act->World->Prop}(V:Sq P l.toArray st)(hnext:∀t,m0<=t->t<l.length->∀i,i<t->∃u,u<=t∧i<u∧bb l.toArray u i=true)
  (hback:∀i j oi oj,i<j->l[i]?=some oi->l[j]?=some oj->bb l.toArray i j=false)(hself:∀j,j<l.length->bb l.toArray j j=false)(H:∀(j:Nat)(o:Oper),l[j]?=some o->∀e∈o.after,e.on<l.length) :
  ∀(fuel k:Nat)(listed:Array Bool)(a:Act)(w:World),listed.size=l.length->m0<=k->k<=l.length->(∀i,listed.getD i false=decide (i<k))->l.length-k<=fuel ->
   tZ st E (List.range' k (l.length-k)) a w->qM st l.toArray E fuel listed a w:=by
 intro fuel
 induction fuel with
 |zero=>
  intro k listed a w U hm hk hl hf h
  have e:k=l.length:=zd
  subst e;rw[afc]at h;refine⟨?_,by simpa [tZ]using h⟩;refine List.eq_nil_iff_forall_not_mem.2 (λi hi=>?_)
  grind[mem_ready,aeu,afd,aeB]
 |succ fuel ih=>
  intro k listed a w U hm hk hl hf h
  have hread:∀j,j∈Region.ready .any l.toArray listed->j=k∧k<l.length:=by
   intro j hj;obtain⟨g1,o,g2,g3⟩:=mem_ready.1 hj
   have W:l[j]?=some o:=by grind
   have hjl:j<l.length:=(aeu.1 W).1
   have his:j<listed.size:=zd
   have g4:=hl j
   rw[show listed.getD j false=false by
    grind]at g4
   have hkj:k<=j:=by
    grind
   rcases Nat.eq_or_lt_of_le hkj with e|A
   ·omega
   ·exfalso
    have hd:∀i,bb l.toArray j i=true->listed.getD i false=true:=by
     intro i hi;simp only[bb,g2,ae6,beq_iff_eq,afe]at hi
     grind
    have hsome:∀n i,i+n+1=j->k<=i->False:=by
     intro n
     induction n using Nat.strongRecOn with
     |_ n ihn=>
      intro i hi hki;obtain⟨u,q1,q2,q3⟩:=hnext j zd hjl i zd
      by_cases hi':u=j
      ·grind
      ·exact ihn (j-1-u) zd u zd zd
    exact hsome (j-k-1) k zd (aen _)
  refine⟨λh0=>?_,λj hj=>?_⟩
  ·rcases aes k l.length with q|q
   ·exfalso
    have hmem:k∈Region.ready .any l.toArray listed:=by
     refine mem_ready.2 ⟨?_,l[k],by simp[q],λe he hb=>?_⟩
     ·grind
     ·have hd:bb l.toArray k e.on=true:=by
       have:l.toArray[k]?=some l[k]:=by simp[q]
       simp only[bb,this];simp only[afe,ae6,beq_iff_eq]
       grind
      rcases aff e.on k with O|O|O
      ·grind
      ·grind
      ·by_cases Y:e.on<l.length
       ·simp_all
       ·exact absurd (H k l[k] (by simp[q]) e he) Y
    grind
   ·have e:k=l.length:=zd
    subst e;rw[afc]at h;simpa [tZ]using h
  ·obtain⟨rfl,A⟩:=hread j hj
   have e:l.length-j=(l.length-(j+1))+1:=zd
   rw[e,afg]at h;simp only[tZ]at h;refine V.mono (λa' w' O=>ih (j+1) _ a' w' (by grind) zd A (λi=>?_) zd O) h
   by_cases hij:i=j
   ·simp_all
   ·rw[show(listed.setIfInBounds j true).getD i false=listed.getD i false from getD_set_ne false (Ne.symm hij),hl i]
    grind
theorem jH{st:Nat->(Act->World->Prop)->Act->World->Prop}{E:Act->World->Prop}{a:Act}{w:World}{l:GE}(L:WP)(fr:Nat->Bool)(hfr:∀i v w,fr i=true->(at' L i).p v w->∀b,cW v=some b->b<w.heap.size)(m0:Nat)(hst:Sq P l.toArray st)(hB:ia l.toArray m0=true)
  (h:tO P l.toArray L fr w.drew (λk=>tZ st E (List.range' k (l.length-k))) (l.take m0) 0 (λ_=>a)):qM st l.toArray E l.toArray.size (Array.replicate l.toArray.size false) a w.drew:=by
 simp only[ia,ae6,afh,afi,afj,decide_eq_true_eq]at hB;obtain⟨⟨⟨hns,hm0⟩,hall⟩,htail⟩:=hB;have hsel:=Region.noSelect_spec hns
 have hpair:∀i j oi oj,i<j->l[i]?=some oi->l[j]?=some oj->(j<m0->bb l.toArray j i=true∨oi.apart l.toArray oj=true)∧bb l.toArray i j=false∧(∀e,oi.dst=some e->oj.dst≠some e)∧(j<m0->∀e,oj.dst=some e->e∉oi.looksAt l.toArray):=by
  intro i j oi oj u hi A;have hjn:=(aeu.1 A).1
  have:=(hall j hjn).1 i u
  simp only[Qk,aeD,hi,A,ae6,afk,Bool.not_eq_true',decide_eq_true_eq]at this
  refine⟨λhlt=>?_,this.1.1.2,λe he=>?_,λhlt e he=>?_⟩
  ·rcases this.1.1.1 with(h|h)|h
   ·omega
   ·exact .inl h
   ·exact .inr h
  ·have h3:=this.1.2;rw[he]at h3;simpa using h3
  ·have h3:=this.2;rw[he]at h3
   rcases h3 with h3|h3
   ·omega
   ·simpa using h3
 have hself:∀j,j<l.length->bb l.toArray j j=false:=λj A=>by simpa using(hall j A).2.1
 have hfar:∀(j:Nat)(o:Oper),l[j]?=some o->∀e∈o.after,e.on<l.length:=λj o A e he=>by
  have:=(hall j (aeu.1 A).1).2.2
  simp only[LV,aeD,A,afl]at this;simpa using this e he
 have hnext:∀t,m0<=t->t<l.length->∀i,i<t->∃i',i'<=t∧i<i'∧bb l.toArray i' i=true:=λt ht htl i hit=>by
  have:=htail t htl
  simp only[afk,decide_eq_true_eq,afh,List.any_eq_true,afi,ae6]at this
  rcases this with h|h
  ·omega
  ·obtain⟨i',H,U,h3⟩:=h i hit;exact⟨i',zd,U,h3⟩
 have hA:uk l:=λi j oi oj hi A u e he=>by
  rcases Nat.lt_or_gt_of_ne u with h|h
  ·exact(hpair i j oi oj h hi A).2.2.1 e he
  ·intro U;exact(hpair j i oj oi h A hi).2.2.1 e U he
 have hO:=wb (P:=P) (L:=L) (fr:=fr) (w0:=w.drew) (T:=λk=>tZ st E (List.range' k (l.length-k))) (a0:=a) hA (m0:=m0) zd (l.take m0) 0 (λ_=>a) zk (aex _) (by
  funext x
  exact(show a=il (λ_=>false) x l 0 a from by
   have:∀(l:GE)k,a=il (λ_=>false) x l k a:=by
    intro l
    induction l with
    |nil=>intro k;rfl
    |cons o l ih=>intro k;rw[il];exact ih (k+1)
   exact this l 0).trans (dp l 0 a (λi _ _=>zk))) h

 have hloose:∀i j oi oj,i<m0->j<m0->l[i]?=some oi->l[j]?=some oj->i≠j->bb l.toArray j i=false->∀d,oi.dst=some d->d∉oj.looksAt l.toArray:=by
  intro i j oi oj him hjm hi A u V
  rcases Nat.lt_or_gt_of_ne u with h|h
  ·rcases(hpair i j oi oj h hi A).1 hjm with H|H
   ·rw[V]at H;cases H
   ·exact(Oper.apart_spec H).1
  ·exact(hpair j i oj oi h A hi).2.2.2 him

 have hsee:∀(s s':Nat->Bool)x j oj,(∀i,m0<=i->s i=false∧s' i=false)->j<m0->l[j]?=some oj->s j=false->s' j=false->(∀i,i<l.length->bb l.toArray j i=true->s i=true∧s' i=true) ->
   execOp (il s x l 0 a).eval oj=execOp (il s' x l 0 a).eval oj∧Region.wanted oj (yielded l.toArray (il s x l 0 a).tmps)=Region.wanted oj (yielded l.toArray (il s' x l 0 a).tmps):=by
  intro s s' x j oj hst hjm A H U V
  have one:=λ(s:Nat->Bool)(hs0:∀i,m0<=i->s i=false)(hs:s j=false)=>Bv (ops:=l.toArray) (s:=s) (keep:=bb l.toArray j) (x:=x) (a:=a) hA (λcs b=>hsel j oj cs b (by simpa using A))
   (λi oi hi hsi hk=>hloose i j oi oj (by rcases aes i m0 with q|q;exact q;rw[hs0 i q]at hsi;cases hsi) hjm hi A (by intro e;subst e;rw[hsi]at hs;cases hs) hk)
  obtain⟨a1,a2⟩:=one s (λi hi=>(hst i hi).1) H;obtain⟨b1,b2⟩:=one s' (λi hi=>(hst i hi).2) U
  have e:il (λi=>s i&&bb l.toArray j i) x l 0 a=il (λi=>s' i&&bb l.toArray j i) x l 0 a:=dp l 0 a (λi _ hi=>by
   refine⟨?_,λ_=>rfl⟩
   cases hk:bb l.toArray j i
   ·simp
   ·obtain⟨c1,c2⟩:=V i zd hk
    simp[c1,c2])
  exact⟨by rw[a1,b1,e],by rw[a2,b2,e]⟩
 have main:∀fuel(listed:Array Bool)x W,listed.size=l.length->Below w.drew.heap.size w.drew W->(∀i,listed.getD i false=true->(at' L i).p (x i) W) ->
   (∀j i,listed.getD j false=true->bb l.toArray j i=true->listed.getD i false=true)->(∀i,m0<=i->listed.getD i false=false)->(∀i j,listed.getD i false=true->listed.getD j false=true->i≠j->fr i=true->fr j=true->∀b,cW (x i)=some b->cW (x j)≠some b)->GW (λi=>listed.getD i false) l.length<=fuel ->
   qM st l.toArray E fuel listed (il (λi=>listed.getD i false) x l 0 a) W:=by
  intro fuel
  induction fuel with
  |zero=>
   intro listed x W _ _ _ _ hlast _ hu
   have:=KU (s:=λi=>listed.getD i false) l.length (i:=m0) hm0 (hlast m0 (aen _))
   omega
  |succ fuel ih=>
   intro listed x W hsz hE hF hcl hlast hpr hu
   have hmemR:∀j,j∈Region.ready .any l.toArray listed->∃oj,l[j]?=some oj∧listed.getD j false=false∧∀i,bb l.toArray j i=true->listed.getD i false=true:=by
    intro j A;obtain⟨H,o,ho,h3⟩:=mem_ready.1 A
    refine⟨o,by simpa using ho,?_,λi hi=>?_⟩
    ·rcases aes j listed.size with h'|h'
     ·simp[h']at H⊢; exact H
     ·simp[Array.getElem?_eq_none h']
    ·simp only[bb,ho,ae6,beq_iff_eq,afe]at hi;obtain⟨e,he,hb,rfl⟩:=hi;exact h3 e he hb
   refine⟨λh0=>?_,λj A=>?_⟩
   ·
    exfalso
    have hex:∃m,m<l.length∧listed.getD m false=false∧∀i,i<m->listed.getD i false=true:=by
     have:∀k,k<=l.length->(∀i,i<k->listed.getD i false=true)∨∃m,m<l.length∧listed.getD m false=false∧∀i,i<m->listed.getD i false=true:=by
      intro k
      induction k with
      |zero=>exactλ_=> .inl (λi hi=>zd)
      |succ k ihk=>
       intro hk
       rcases ihk zd with h|h
       ·cases hc:listed.getD k false
        ·exact .inr ⟨k,zd,hc,h⟩
        ·exact .inl (λi hi=>by
          by_cases e:i=k
          ·subst e;exact hc
          ·exact h i zd)
       ·exact .inr h
     rcases this l.length (aen _)with h|h
     ·have:=h m0 hm0
      rw[hlast m0 (aen _)]at this;cases this
     ·exact h
    obtain⟨m,hm1,hm2,hm3⟩:=hex
    have hmem:m∈Region.ready .any l.toArray listed:=by
     refine mem_ready.2 ⟨?_,l[m],by simp[hm1],λe he hb=>?_⟩
     ·have hms:m<listed.size:=zd
      simp[hms]at hm2⊢; exact hm2
     ·have V:bb l.toArray m e.on=true:=by
       have:l.toArray[m]?=some l[m]:=by simp[hm1]
       simp only[bb,this];simp only[afe,ae6,beq_iff_eq];exact⟨e,he,hb,rfl⟩
      rcases aff e.on m with h|h|h
      ·exact hm3 _ h
      ·rw[h,hself m hm1]at V;cases V
      ·by_cases hl:e.on<l.length
       ·have:=(hpair m e.on l[m] l[e.on] h (by simp[hm1]) (by simp[hl])).2.1
        rw[V]at this;cases this
       ·exact absurd (hfar m l[m] (by simp[hm1]) e he) hl
    rw[h0]at hmem;cases hmem
   ·obtain⟨oj,Y,hun,hdeps⟩:=hmemR j A;have hjl:=(aeu.1 Y).1
    have hsj:(listed.setIfInBounds j true).size=l.length:=by simpa using hsz
    have hgd:∀i,(listed.setIfInBounds j true).getD i false=fm (λi=>listed.getD i false) j i:=by
     intro i
     by_cases u:i=j
     ·subst u
      have:i<listed.size:=zd
      simp[fm,this]
     ·simp only[fm,if_neg u];exact getD_set_ne false (Ne.symm u)
    have hup:∀t,m0<=t->t<l.length->(∀i,bb l.toArray t i=true->listed.getD i false=true)->∀k i,i+k+1=t->listed.getD i false=true:=by
     intro t H U hdt k
     induction k using Nat.strongRecOn with
     |_ k ihk=>
      intro i hi;obtain⟨i',q1,q2,q3⟩:=hnext t H U i zd
      by_cases hi':i'=t
      ·subst hi';exact hdt i q3
      ·exact hcl i' i (ihk (t-1-i') zd i' zd) q3
    by_cases hjn:m0<=j
    ·
     have hj0:j=m0:=by
      rcases Nat.eq_or_lt_of_le hjn with e|hlt
      ·exact e.symm
      ·have:=hup j hjn hjl hdeps (j-m0-1) m0 zd
       rw[hlast m0 (aen _)]at this;cases this
     subst hj0;have hall':∀i,i<j->listed.getD i false=true:=λi hi=>hup j hjn hjl hdeps (j-i-1) i zd;have U:=hO.2 x W hE (λi hi=>hF i (hall' i hi)) (λi k hi hk=>hpr i k (hall' i hi) (hall' k hk))
     have e:il (λi=>decide (i<j)) x l 0 a=il (λi=>listed.getD i false) x l 0 a:=dp l 0 a (λi _ hi=>by
      refine⟨?_,λ_=>rfl⟩
      by_cases u:i<j
      ·simp only[u,decide_true];exact(hall' i u).symm
      ·simp only[u,decide_false];exact(hlast i zd).symm)
     rw[e]at U
     have hrun:=Rt (P:=P) (st:=st) (E:=E) (l:=l) (m0:=j) hst (λt H U=>hnext t H U) (λi k oi ok hik H U=>(hpair i k oi ok hik H U).2.1) hself hfar (fuel+1) j listed _ W hsz (aen _) (afm hjl) (λi=>by
      by_cases u:i<j
      ·simp only[u,decide_true];exact hall' i u
      ·simp only[u,decide_false];exact hlast i zd) (by
      have:=Gv (s:=λi=>listed.getD i false) l.length j (afm hjl) (λi H _=>hlast i H)
      omega) U
     exact hrun.2 j A
    ·have hjm:j<m0:=zd
     have hst2:=hO.1 j oj (aex _) hjm Y x W hE (λi hi=>hF i (hdeps i hi)) (λi k hi hk=>hpr i k (hdeps i hi) (hdeps k hk))
     obtain⟨c1,c2⟩:=hsee (λi=>listed.getD i false) (λi=>decide (i<j)) x j oj (λi hi=>⟨hlast i hi,ahy⟩) hjm Y hun zk (λi hi V=>⟨hdeps i V,by
      rcases aff i j with h|h|h
      ·simpa using h
      ·rw[h,hself j hjl]at V;cases V
      ·have:=(hpair j i oj l[i] h Y (by simp[hi])).2.1
       rw[V]at this;cases this⟩)
     have next:∀v w2,(XH (fr j) W.heap.size (at' L j)).p v w2->Below W.heap.size W w2->qM st l.toArray E fuel (listed.setIfInBounds j true) ((il (λi=>listed.getD i false) x l 0 a).put oj.dst v) w2:=by
      intro v w2 hvf hb;obtain⟨hv,hvn⟩:=hvf;have hi:=qG (s:=λi=>listed.getD i false) (x:=x) (v:=v) l 0 j a hA Y (by simpa using hun);rw[Nat.zero_add]at hi;rw[<-hi, <- show(λi=>(listed.setIfInBounds j true).getD i false)=fm (λi=>listed.getD i false) j from funext hgd]
      refine ih _ _ w2 hsj (Wa hE hb) (λi hi'=>?_) (λj' i hj' V=>?_) ?_ ?_ ?_
      ·rw[hgd]at hi'
       by_cases u:i=j
       ·subst u;simpa [oJ]using hv
       ·simp only[fm,if_neg u]at hi';simp only[oJ,if_neg u];exact(at' L i).st _ _ _ hb (hF i hi')
      ·rw[hgd]at hj'⊢
       by_cases u:i=j
       ·simp[fm,u]
       ·simp only[fm,if_neg u]
        by_cases hj2:j'=j
        ·subst hj2;exact hdeps i V
        ·simp only[fm,if_neg hj2]at hj';exact hcl j' i hj' V
      ·intro i hi;rw[hgd]
       have:i≠j:=zd
       simp only[fm,if_neg this];exact hlast i hi
      ·intro i k hi hk hik fi fk b hbi hbk;rw[hgd]at hi hk
       have nZ:∀i,fm (λi=>listed.getD i false) j i=true->i≠j->listed.getD i false=true:=λi H U=>by simpa only[fm,if_neg U]using H
       by_cases u:i=j
       ·subst u;have hkj:k≠i:=λe=>hik e.symm;simp only[oJ,if_true,if_neg hkj]at hbi hbk
        have:=hfr k _ W fk (hF k (nZ k hk hkj)) b hbk
        have:=hvn fi b hbi
        omega
       ·by_cases hkj:k=j
        ·subst hkj;simp only[oJ,if_true,if_neg u]at hbi hbk
         have:=hfr i _ W fi (hF i (nZ i hi u)) b hbi
         have:=hvn fk b hbk
         omega
        ·simp only[oJ,if_neg u,if_neg hkj]at hbi hbk;exact hpr i k (nZ i hi u) (nZ k hk hkj) hik fi fk b hbi hbk
      ·rw[qI (s':=fm (λi=>listed.getD i false) j) l.length (λi _=>hgd i)]
       have:=xo (s:=λi=>listed.getD i false) (i:=j) l.length hjl hun
       omega
     unfold vH at hst2;rw[<-c1, <- c2]at hst2
     exact hst.of (by simpa using Y) hst2 next
 have O:∀i,(Array.replicate l.toArray.size false).getD i false=false:=λi=>by
  simp only[afd,Array.getElem?_replicate];split<;>rfl
 have h0:=main l.toArray.size (Array.replicate l.toArray.size false) (λ_=>undef) w.drew zk (Below.refl _ _)
  (λi hi=>by rw[O]at hi;cases hi) (λj i A=>by rw[O]at A;cases A) (λi _=>O i) (λi j hi=>by rw[O]at hi;cases hi) (Jo _)
 have e:il (λi=>(Array.replicate l.toArray.size false).getD i false) (λ_=>undef) l 0 a=a:=by
  have:∀(l':GE)k,il (λi=>(Array.replicate l.toArray.size false).getD i false) (λ_=>undef) l' k a=a:=by
   intro l'
   induction l' with
   |nil=>intro k;rfl
   |cons o l' ih=>intro k;rw[il,O];exact ih (k+1)
  exact this l 0
 rw[e]at h0;exact h0
theorem UT(Q:Exit->Act->World->Prop)(l:GE):Gq P l.toArray Q=λk=>tZ (wpOp P l.toArray Q) (Q .normal) (List.range' k (l.length-k)):=by
 grind[Gq,K1,afj]
theorem mE{Q:Exit->Act->World->Prop}{a:Act}{w:World}{l:GE}(L:WP)(fr:Nat->Bool)(q:∀i v w,fr i=true->(at' L i).p v w->∀b,cW v=some b->b<w.heap.size)(m0:Nat)(u:ia l.toArray m0=true)
  (h:tO P l.toArray L fr w.drew (Gq P l.toArray Q) (l.take m0) 0 (λ_=>a)):wpAny P .any l.toArray Q l.toArray.size (Array.replicate l.toArray.size false) a w.drew:=
 K0 _ _ _ _ (jH L fr q m0 (UQ Q) u (by rw[<-UT];exact h))
theorem wk{Q:Exit->Act->World->Prop}{a:Act}{w:World}{l:GE}(L:WP)(m0:Nat)(q:ia l.toArray m0=true)
  (h:qD P l.toArray L w.drew (Gq P l.toArray Q) (l.take m0) 0 (λ_=>a)):wpAny P .any l.toArray Q l.toArray.size (Array.replicate l.toArray.size false) a w.drew:=
 mE L (λ_=>false) (λi v w h=>by cases h) m0 q (oy _ _ _ h)
end
section
variable {D:Nat->Prop} {nu:EQ} {o:AC} {w:World} {P:Program}
def pk(P:Program)(all:GE)(oo:Oper)(s:AS)(K:AS->Prop):Prop:=match oo.guard with
 |none=>D7 P oo.op s (λr o'=>K (s.put oo.dst r o'))
 |some (j,want)=>Ae (nN all s j) want (D7 P oo.op s (λr o'=>K (s.put oo.dst r o'))) (K (s.put oo.dst (.v Go.undef) s.o))
def fY(P:Program)(all:GE):GE->AS->(AS->Prop)->Prop
 | [],s,Q=>Q s
 |oo::rest,s,Q=>pk P all oo s (λs'=>fY P all rest s' Q)
def fX(P:Program)(all:GE)(B:AS->Prop):GE->AS->Prop
 | [],s=>B s
 |oo::rest,s=>match oo.guard with
  |none=>dN P oo.op s (λr=>fX P all B rest (s.put oo.dst r s.o))
  |some (j,want)=>Ae (nN all s j) want (dN P oo.op s (λr=>fX P all B rest (s.put oo.dst r s.o))) (fX P all B rest (s.put oo.dst (.v Go.undef) s.o))
abbrev ui(P:Program)(all tail:GE)(l:GE)(s:AS)(Q:AS->Prop):Prop:=fX P all (λs=>fY P all tail s Q) l s
theorem nC{f:Fr}{l:GE}{R:Exit->Act->World->Prop}:∀(tail:GE)(k:Nat)(s:AS)(a:Act)(w:World)(nu:EQ),l.drop k=tail->k<=l.length->RS f D nu s a w->∀{Q:AS->Prop},fY P l tail s Q ->
  (∀s' A w' nu',cf nu s.o w nu' s'.o w'->s'.y=s.y->RS f D nu' s' A w'->Q s'->R .normal A w')->wpOps P l.toArray R (List.range' k (l.length-k)) a w
 | [],k,s,a,w,nu,hl,hk,q,Q,h,V=>by
  have e:k=l.length:=by have:=congrArg List.length hl;grind
  subst e;rw[afc];simpa [wpOps]using V s a w nu (.refl _ _ _) rfl q h
 |oo::rest,k,s,a,w,nu,hl,hk,q,Q,h,V=>by
  have H:k<l.length:=by grind
  have hok:l[k]?=some oo:=by have:=congrArg (λm=>m[0]?) hl;grind
  have O:l.drop (k+1)=rest:=by have:=congrArg List.tail hl;simpa using this
  have e:l.length-k=(l.length-(k+1))+1:=zd
  rw[e,afg,wpOps_cons];unfold wpOp;simp only[aeD,hok]
  have hdo:D7 P oo.op s (λr o'=>fY P l rest (s.put oo.dst r o') Q)->Region.wanted oo (yielded l.toArray a.tmps)=true->(if Region.wanted oo (yielded l.toArray a.tmps)=true then oo.wp P a w (wpOps P l.toArray R (List.range' (k+1) (l.length-(k+1)))) R∨oo.asks P a w∧LetsOut R else wpOps P l.toArray R (List.range' (k+1) (l.length-(k+1))) (a.put oo.dst Go.undef) w):=by
   intro U hw;rw[if_pos hw];exact .inl (En (P:=P) q.ro (λy _=>q.ev y) U (λv w' nu' r o' m1 m2 m3 m4=>nC rest (k+1) (s.put oo.dst r o') _ w' nu' O H (q.put m1 m2 m3 oo.dst) m4 (λs' A W u q1 q2 q3 Y=>V s' A W u (by simpa only[AS.put]using m1.trans q1) (q2.trans rfl) q3 Y)))
  have hskip:fY P l rest (s.put oo.dst (.v Go.undef) s.o) Q->Region.wanted oo (yielded l.toArray a.tmps)=false->(if Region.wanted oo (yielded l.toArray a.tmps)=true then oo.wp P a w (wpOps P l.toArray R (List.range' (k+1) (l.length-(k+1)))) R∨oo.asks P a w∧LetsOut R else wpOps P l.toArray R (List.range' (k+1) (l.length-(k+1))) (a.put oo.dst Go.undef) w):=by
   intro U hw;rw[if_neg (by grind)];exact nC rest (k+1) (s.put oo.dst (.v Go.undef) s.o) _ w nu O H (q.put (.refl _ _ _) q.ro (.v _) oo.dst) U (λs' A W u q1 q2 q3 Y=>V s' A W u (by simpa only[AS.put]using q1) (q2.trans rfl) q3 Y)
  simp only[fY,pk]at h
  split at h
  ·grind[Region.wanted]
  ·rename_i j want hg;have hyv:∀g,nN l s j=some g->yielded l.toArray a.tmps j=g:=λg hgv=>jK (D:=D) (nu:=nu) (w:=w) (λd c v U h1 h2=>q.tm.at' d c v h1 h2) q.tm.len hgv;unfold Ae at h
   split at h
   ·rename_i b e
    cases hb:b==want
    ·rw[hb]at h;exact hskip h (by grind[Region.wanted])
    ·rw[hb]at h;exact hdo h (by grind[Region.wanted])
   ·grind[Region.wanted]
   grind
theorem I7{l:GE}{m0:Nat}(H:ia l.toArray m0=true){i j:Nat}{oi oj:Oper}(u:i<j)(hi:l[i]?=some oi)(A:l[j]?=some oj)(O:j<m0):bb l.toArray j i=true∨∀d,oi.dst=some d->d∉oj.looksAt l.toArray:=by
 simp only[ia,ae6,afh,afi,afj]at H;have q:=(aeu.1 A).1
 have:=(H.1.2 j q).1 i u
 simp only[Qk,aeD,hi,A,ae6,afk,Bool.not_eq_true',decide_eq_true_eq]at this
 grind[Oper.apart_spec]
theorem jZ{f:Fr}{l:GE}{m0:Nat}(hm0:m0<=l.length)(hB:ia l.toArray m0=true){s:AS}{a:Act}{w0:World}{B:AS->Prop}{T:Nat->Act->World->Prop}(W:RS f D nu s a w0)
  (hT:∀sk a' wr,Below w0.heap.size w0 wr->sk.o=s.o->sk.y=s.y->RS f D nu sk a' wr->B sk->T m0 a' wr) :
  ∀(rest:GE)(k:Nat)(sk:AS)(rs:C5)(A:(Nat->Value)->Act),(l.take m0).drop k=rest->k<=m0->NQ l s a k sk rs A->fX P l B rest sk->∃rs',qD P l.toArray ((rs++rs').map (js D nu s.o)) w0 T rest k A
 | [],k,sk,rs,A,hl,hk,q,h=>by
  have U:k=m0:=by have:=congrArg List.length hl;grind
  subst U;refine⟨[],λx wr u O=>?_⟩;have hro:RO D nu s.o wr:=W.ro.below u
  have hsk:RS f D nu sk (A x) wr:=by
   refine⟨by rw[q.o];exact hro,⟨q.size x,λt c v h1 h2=>?_⟩,by rw[q.mb x];exact W.mb.mono W.ro (aG u)⟩;rw[q.o]
   rcases q.val x t c v h1 h2 with⟨Y,h4⟩|⟨i,q1,q2,q3,q4⟩
   ·exact(W.tm.at' t c v Y h4).mono (aG u) (λ_ _ h=>h)
   ·have:=O i q1
    rw[wQ q3]at this;rw[q4];exact this.2
  exact hT sk (A x) wr u q.o q.y hsk h
 |oo::rest,k,sk,rs,A,hl,hk,q,h=>by
  have U:k<m0:=by grind
  have hok:l[k]?=some oo:=by
   have:=congrArg (λm=>m[0]?) hl
   grind
  have hl':(l.take m0).drop (k+1)=rest:=by have:=congrArg List.tail hl;simpa using this

  have hlook:∀x wr,Below w0.heap.size w0 wr->(∀rs' i,bb l.toArray k i=true->i<k->(at' ((rs++rs').map (js D nu s.o)) i).p (x i) wr)->∀(t:Nat)c v,t∈oo.looksAt l.toArray->sk.t[t]?=some c->(A x).tmps[t]?=some v->RA D nu s.o wr c v:=by
   intro x wr u O t c v ht h1 h2
   rcases q.val x t c v h1 h2 with⟨Y,h4⟩|⟨i,q1,⟨oi,q2,q5⟩,q3,q4⟩
   ·exact(W.tm.at' t c v Y h4).mono (aG u) (λ_ _ h=>h)
   ·rcases I7 hB q1 q2 hok U with h5|h5
    ·have:=O [] i h5 q1
     rw[wQ q3]at this;rw[q4];exact this.2
    grind
  have hevs:∀x wr,Below w0.heap.size w0 wr->(∀rs' i,bb l.toArray k i=true->i<k->(at' ((rs++rs').map (js D nu s.o)) i).p (x i) wr)->Si D nu s.o wr sk.ev (A x).eval oo.op:=by
   intro x wr u O y hy
   cases y with
   |tmp t=>
    simp only[AS.ev,Act.eval]
    rcases aes t sk.t.length with hlt|hge
    ·have e1:sk.t[t]?=some sk.t[t]:=aeC hlt
     have hlt':t<(A x).tmps.size:=by rw[<-q.size x];exact hlt
     have hx:(A x).tmps[t]?=some (A x).tmps[t]:=aeB hlt';rw[getD_some e1]
     have:(A x).tmps.getD t Go.undef=(A x).tmps[t]:=by simp_all
     rw[this];exact hlook x wr u O t _ _ (List.mem_append_left _ (List.mem_filterMap.2 ⟨.tmp t,hy,rfl⟩)) e1 hx
    ·rw[List.getD_eq_getElem?_getD,List.getElem?_eq_none hge];exact .undef _
   |const v=>exact .v v
   |global gi=>exact(wZ W.ro sk gi).mono (aG u) (λ_ _ h=>h)
   |func f=>exact .fn f [] [] #[] #[] rfl rfl (λi c x h=>by simp at h) (λi c x h=>by simp at h)

  have hdo:dN P oo.op sk (λr=>fX P l B rest (sk.put oo.dst r sk.o))->(∀x wr,Below w0.heap.size w0 wr->(∀rs' i,bb l.toArray k i=true->i<k->(at' ((rs++rs').map (js D nu s.o)) i).p (x i) wr)->Region.wanted oo (yielded l.toArray (A x).tmps)=true) ->
    ∃rs',qD P l.toArray ((rs++rs').map (js D nu s.o)) w0 T (oo::rest) k A:=by
   intro hd hw;obtain⟨r,V,hr⟩:=qh hd;rw[q.o]at V;obtain⟨rs',H⟩:=jZ hm0 hB W hT rest (k+1) _ (rs++[r]) _ hl' U (q.step hok r) V;rw[List.append_assoc,afn]at H;refine⟨r::rs',⟨(λx wr u O=>?_),H⟩⟩
   have hD':∀rs'' i,bb l.toArray k i=true->i<k->(at' ((rs++rs'').map (js D nu s.o)) i).p (x i) wr:=λrs'' i h1 h2=>by
    have Y:=O i h1
    have h5:i<rs.length:=by rw[q.len];exact h2
    have h4:rs[i]?=some rs[i]:=aeC h5;rw[wQ h4]at Y⊢;exact Y
   obtain⟨r',rfl,hout⟩:=lk (P:=P) (nu:=nu) (D:=D) (w:=wr) (rho:=(A x).eval) (by rw[q.o];exact W.ro.below u) (by rw[q.o];grind) hr;have e:=vL (D:=D) (nu:=nu) (o:=s.o) (rs:=rs) (rs':=rs') (r:=r');rw[q.len]at e;refine .inl ⟨hw x wr u hD',?_⟩;rw[e];rw[q.o]at hout;exact hout
  simp only[fX]at h
  split at h
  ·grind[Region.wanted]
  ·rename_i j want hg
   have hyv:∀g,nN l sk j=some g->∀x wr,Below w0.heap.size w0 wr->(∀rs' i,bb l.toArray k i=true->i<k->(at' ((rs++rs').map (js D nu s.o)) i).p (x i) wr)->yielded l.toArray (A x).tmps j=g:=λg hgv x wr u O=>
    jK (D:=D) (nu:=nu) (w:=wr) (λd c v hd h1 h2=>by
     rw[q.o];refine hlook x wr u O d c v ?_ h1 h2;obtain⟨og,q1,q2⟩:=hd;refine List.mem_append_right _ ?_
     grind) (q.size x) hgv
   have hskip:fX P l B rest (sk.put oo.dst (.v Go.undef) sk.o)->(∀x wr,Below w0.heap.size w0 wr->(∀rs' i,bb l.toArray k i=true->i<k->(at' ((rs++rs').map (js D nu s.o)) i).p (x i) wr)->Region.wanted oo (yielded l.toArray (A x).tmps)=false) ->
     ∃rs',qD P l.toArray ((rs++rs').map (js D nu s.o)) w0 T (oo::rest) k A:=by
    intro V hw;rw[q.o]at V;obtain⟨rs',H⟩:=jZ hm0 hB W hT rest (k+1) _ (rs++[.v Go.undef]) _ hl' U (q.step hok (.v Go.undef)) V;rw[List.append_assoc,afn]at H;refine⟨.v Go.undef::rs',⟨(λx wr u O=>?_),H⟩⟩
    have hD':∀rs'' i,bb l.toArray k i=true->i<k->(at' ((rs++rs'').map (js D nu s.o)) i).p (x i) wr:=λrs'' i h1 h2=>by
     have Y:=O i h1
     have h5:i<rs.length:=by rw[q.len];exact h2
     have h4:rs[i]?=some rs[i]:=aeC h5;rw[wQ h4]at Y⊢;exact Y
    have e:=vL (D:=D) (nu:=nu) (o:=s.o) (rs:=rs) (rs':=rs') (r:= .v Go.undef);rw[q.len]at e;refine .inr ⟨hw x wr u hD',?_⟩;rw[e];exact⟨W.ro.below u,.v _⟩
   unfold Ae at h
   split at h
   ·rename_i b e
    cases hb:b==want
    ·rw[hb]at h;exact hskip h (λx wr u O=>by grind[Region.wanted])
    ·rw[hb]at h;exact hdo h (λx wr u O=>by grind[Region.wanted])
   ·grind[Region.wanted]
   grind
theorem Ad{op:Op}{s:AS}{K A:AV->Prop}(h:∀r,K r->A r)(V:dN P op s K):dN P op s A:=by
 obtain⟨r,U,q⟩:=qh V;have key:∀u,u=r->A u:=λu e=>e ▸ h r U;unfold dN at q⊢
 split at q
 ·split at q
  ·unfold cn at q⊢
   grind
  omega
 ·split at q
  ·unfold G2 at q⊢
   split at q
   ·obtain⟨u,O,H⟩:=q;exact⟨u,O,key _ H⟩
   omega
  ·unfold Jw at q⊢
   grind
 ·unfold Jw at q⊢
  grind
theorem Aq{n0 id:Nat}{s:AS}{l:GE}{Q:bd->AS->Prop}(m0:Nat)(V:ia l.toArray m0=true)(hC:dP l.toArray=true)(h:ui P l (l.drop m0) (l.take m0) s (Q .normal)):cD P n0 (.region id l.toArray true) s Q:=by
 refine .inr (λf m D nu a w hZr hn hm A hmx R hO hR=>?_)
 have q:m0<=l.length:=by
  simp only[ia,ae6,decide_eq_true_eq,afj]at V;omega
 obtain⟨rs,U⟩:=jZ (P:=P) (T:=Gq P l.toArray R) q V A.drew (λsk a' wr hE ho hy u H=>nC (P:=P) (f:=f) (l:=l) (R:=R) (l.drop m0) m0 sk a' wr nu rfl q u H (λs' a2 w' nu' q1 Y O W=>hR .normal D f.Z s' a2 w' nu' (by
  rw[Y,hy];exact m.own hm A.ro ((aG (dE w)).trans ((aG hE).trans (ho ▸ q1))) O.ro) O W)) (l.take m0) 0 s [] (λ_=>a) zk (aex _) ⟨rfl,rfl,rfl,λ_=>rfl,λ_=>A.tm.len,λx t c v h1 h2=> .inl ⟨h1,h2⟩⟩ h
 grind[ug,wk]
theorem xF{all rest:GE}{oo:Oper}{s:AS}{B:AS->Prop}(h:∀K:AS->Prop,(∀s',fX P all B rest s'->K s')->fw P all oo s K):fX P all B (oo::rest) s:=by
 have:=h _ (λ_ h=>h)
 grind[fw,fX]
theorem vF{all:GE}{oo:Oper}{s:AS}{K A:AS->Prop}(h:∀s',K s'->A s')(q:fw P all oo s K):fw P all oo s A:=by
 unfold fw at q⊢
 split at q
 ·exact Ad (λr u=>h _ u) q
 ·unfold Ae at q⊢
  split at q
  ·unfold cn at q⊢
   split at q
   ·rename_i hb;rw[if_pos hb];exact Ad (λr u=>h _ u) q
   ·rename_i hb;rw[if_neg hb];exact h _ q
  ·exact h _ q
  ·exact q.elim
def C9:GE->Bool
 | []=>true
 | [_]=>true
 |o::l=>(match o.op with| .alloc _=>false| .store .. =>false|_=>true)&&C9 l
theorem JQ(all:GE):∀(l:GE)(s:AS)(Q:AS->Prop),iX P all l s Q->ui P all (l.drop (l.length-1)) (l.take (l.length-1)) s Q
 | [],_,_,h=>h.elim
 | [oo],s,Q,h=>by
  cases q:oo.guard with
  |none=>
   simp only[iX,q]at h;show pk P all oo s Q;simpa only[pk,q]using h
  |some g=>simp only[iX,q]at h
 |oo::u::rest,s,Q,h=>by
  have H:fw P all oo s (λs'=>iX P all (u::rest) s' Q):=by
   simpa only[fw,iX]using h
  exact xF λK hK=>vF (λs' A=>hK _ (JQ all (u::rest) s' Q A)) H
theorem Ol{n0 id:Nat}{s:AS}{l:GE}{Q:bd->AS->Prop}(q:(ia l.toArray (l.length-1)&&dP l.toArray)=true)(_hL:C9 l=true)(h:iX P l l s (Q .normal)):cD P n0 (.region id l.toArray true) s Q:=by
 rw[ae6]at q;exact Aq _ q.1 q.2 (JQ l l s _ h)
theorem KO{r:Option Nat}{n:Nat}{ops:Array Oper}(H:dP ops=true)(R:Exit->Act->World->Prop):Sq P ops (wpOpIn (WF r) n P ops R):=⟨λh k=>wpOpIn_mono h k,λ{i o S K a w}hi h next=>by
 unfold wpOpIn;simp only[hi]
 rcases h with⟨A,q⟩|⟨A,q⟩
 ·rw[if_pos A];refine⟨λf _=>trivial,?_⟩;rw[pz H hi];generalize(execOp a.eval o).run P w=r at q
  cases r with
  |halt _ _=>exact q.elim
  |ok n w'=>
   cases n<;>first|exact q.elim|skip
   case value u=>exact next _ _ q.1 q.2
   case skip=>exact next _ _ q.1 q.2
   case enter f args=>
    refine⟨λe=>(by cases e),nI (Calls.mono q λe w'' O=>?_)⟩
    grind
 ·rw[if_neg (by grind)]
  exact⟨λf _=>trivial,next _ _ q (Below.refl _ _)⟩⟩
theorem Cf{r:Option Nat}{n:Nat}{ops:Array Oper}{R:Exit->Act->World->Prop}:∀(fuel:Nat)(listed:Array Bool)(a:Act)(w:World),qM (wpOpIn (WF r) n P ops R) ops (R .normal) fuel listed a w->wpAnyIn (WF r) n P .any ops R fuel listed a w
 |0,_,_,_,h=>h
 |fuel+1,_,_,_,h=>⟨h.1,λi hi=>wpOpIn_mono (λ_ _=>Cf fuel _ _ _) (h.2 i hi)⟩
theorem tf{r:Option Nat}{n:Nat}{l:GE}{R:Exit->Act->World->Prop}:∀(m k:Nat)(a:Act)(w:World),k+m=l.length->wpListIn (WF r) n P l.toArray R (l.drop k) a w->tZ (wpOpIn (WF r) n P l.toArray R) (R .normal) (List.range' k m) a w
 |0,k,a,w,u,h=>by
  rw[List.drop_eq_nil_of_le zd]at h;exact h
 |m+1,k,a,w,u,h=>by
  have q:k<l.length:=zd
  rw[List.drop_eq_getElem_cons q]at h;rw[afg];simp only[tZ,wpOpIn,aeD,aeC q];simp only[wpListIn]at h
  split at h
  ·rename_i hw;rw[if_pos hw];exact Oper.wpIn_mono (λa w h=>tf m (k+1) a w zd h) h
  ·rename_i hw;rw[if_neg hw];exact⟨h.1,tf m (k+1) _ w zd h.2⟩
theorem Lx{n0 id:Nat}{s:AS}{l:GE}{Q:bd->AS->Prop}(m0:Nat)(O:ia l.toArray m0=true)(H:dP l.toArray=true)(h:fX P l (λs=>jU P l (l.drop m0) s (Q .normal)) (l.take m0) s):cD P n0 (.region id l.toArray true) s Q:=by
 refine .inr (λf m D nu a w hZr hn hm V W R hO hR=>?_)
 have Y:m0<=l.length:=by
  simp only[ia,ae6,decide_eq_true_eq,afj]at O;exact afm O.1.1.2
 have hcalm:∀oo,oo∈l.drop m0->∀c,oo.op ≠ .defer c:=λoo A c e=>by
  unfold dP at H;rw[afl]at H;have U:=H oo (by simpa using List.mem_of_mem_drop A);rw[e]at U;cases U
 obtain⟨rs,u⟩:=jZ (P:=P) (T:=λk=>tZ (wpOpIn (WF f.r) 9 P l.toArray R) (R .normal) (List.range' k (l.length-k))) Y O V.drew (λsk a' wr hE A hy q hB'=>tf _ _ _ _ zd (mF m hZr _ sk a' wr D nu hcalm (by
  rw[A,hy];exact m.own hm V.ro ((aG (dE w)).trans (aG hE)) (A ▸ q.ro)) q hB' (λD' s' a2 w2 nu' q1 q2 q3=>hR .normal D' f.Z s' a2 w2 nu' q1 q2 q3))) (l.take m0) 0 s [] (λ_=>a) zk (aex _) ⟨rfl,rfl,rfl,λ_=>rfl,λ_=>V.tm.len,λx t c v h1 U=> .inl ⟨h1,U⟩⟩ h
 exact wpIn_region_any W (Cf _ _ _ _ (jH _ (λ_=>false) (λi v w h=>by cases h) m0 (KO H R) O (oy _ _ _ u)))
def yr:Op->Bool
 | .alloc _| .store .. | .mapUpdate .. | .insert .. | .makeSlice .. | .makeMap .. =>true
 | .call c=>match c.callee with
  | .builtin .append| .builtin .copy| .builtin .delete| .builtin .clear=>true
  |_=>false
 |_=>false
def vN:GE->Nat
 | []=>0
 |o::l=>if yr o.op then 0 else vN l+1
def iu(P:Program)(all:GE):GE->AS->(AS->Prop)->Prop
 | [],s,Q=>Q s
 |oo::rest,s,Q=>if yr oo.op then fY P all (oo::rest) s Q else fw P all oo s (λs'=>iu P all rest s' Q)
theorem Eo(all:GE):∀(l:GE)(s:AS)(Q:AS->Prop),iu P all l s Q->ui P all (l.drop (vN l)) (l.take (vN l)) s Q
 | [],s,Q,h=>h
 |oo::rest,s,Q,h=>by
  simp only[iu]at h
  by_cases q:yr oo.op=true
  ·rw[if_pos q]at h;simpa only[vN,q,if_true,List.drop_zero,List.take_zero,ui,fX]using h
  ·rw[if_neg q]at h;simp only[vN,q,if_false,List.drop_succ_cons,List.take_succ_cons,Bool.false_eq_true];exact xF λK hK=>vF (λs' u=>hK _ (Eo all rest s' Q u)) h
theorem Lw{n0 id:Nat}{s:AS}{l:GE}{Q:bd->AS->Prop}(u:ia l.toArray (vN l)=true)(q:dP l.toArray=true)(h:iu P l l s (Q .normal)):cD P n0 (.region id l.toArray true) s Q:=
 Aq (vN l) u q (Eo l l s _ h)
theorem Ob{all rest:GE}{oo:Oper}{s:AS}{Q:AS->Prop}(q:yr oo.op=false)(h:∀K:AS->Prop,(∀s',iu P all rest s' Q->K s')->fw P all oo s K):iu P all (oo::rest) s Q:=by
 simp only[iu,q,Bool.false_eq_true,if_false]
 grind
theorem Hh{all rest:GE}{oo:Oper}{s:AS}{Q:AS->Prop}(q:yr oo.op=true)(h:fY P all (oo::rest) s Q):iu P all (oo::rest) s Q:=by
 simpa only[iu,q,if_true]using h
theorem Hi{all:GE}{s:AS}{Q:AS->Prop}(h:Q s):iu P all [] s Q:=h
theorem SO{all rest:GE}{oo:Oper}{s:AS}{Q:AS->Prop}(h:∀K:AS->Prop,(∀s',fY P all rest s' Q->K s')->pk P all oo s K):fY P all (oo::rest) s Q:=h _ (λ_ h=>h)
theorem Ls{all:GE}{s:AS}{Q:AS->Prop}(h:Q s):fY P all [] s Q:=h
theorem Hl{all tail:GE}{s:AS}{Q:AS->Prop}(h:fY P all tail s Q):ui P all tail [] s Q:=h
theorem SI(all:GE)(dst:Option Tmp)(op:Op)(ty:TypeId)(pos:String)(aft:Array Edge)(s:AS)(K:AS->Prop) :
  pk P all ⟨dst,op,ty,pos,aft,none⟩ s K=D7 P op s (λr o'=>K (s.put dst r o')):=rfl
theorem SH(all:GE)(dst:Option Tmp)(op:Op)(ty:TypeId)(pos:String)(aft:Array Edge)(j:Nat)(want:Bool)(s:AS)(K:AS->Prop) :
  pk P all ⟨dst,op,ty,pos,aft,some (j,want)⟩ s K=Ae (nN all s j) want (D7 P op s (λr o'=>K (s.put dst r o'))) (K (s.put dst (.v Go.undef) s.o)):=rfl
attribute [go_sem] SI SH
end
class bG(G:Prop)(H:outParam Prop):Prop where
 up:H->G
section
variable {P:Program} {all rest tail:GE} {n0:Nat} {s:AS} {Q:bd->AS->Prop} {R K:AS->Prop} {oo o2:Oper} {i:Nat} {c d:Code} {x:Operand} {l:GE} {bx:am} {k:Nat}
instance {B:AS->Prop}:bG (fX P all B (oo::rest) s) (∀K:AS->Prop,(∀s',fX P all B rest s'->K s')->fw P all oo s K):=⟨xF⟩
instance:bG (fX P all (λs=>jU P all tail s R) [] s) (jU P all tail s R):=⟨λh=>h⟩
instance:bG (jU P all [] s R) (R s):=⟨Oe⟩
instance:bG (jU P all (oo::rest) s R) (∀K:AS->Prop,(∀s',jU P all rest s' R->K s')->vE P all oo s K):=⟨V5⟩
instance {dst:Option Tmp}{op:Op}{ty:TypeId}{pos:String}{aft:Array Edge}:bG (iX P all [⟨dst,op,ty,pos,aft,none⟩] s R) (∀K:AS->Prop,(∀s',R s'->K s')->D7 P op s (λr o'=>K (s.put dst r o'))):=⟨Hm⟩
instance:bG (iX P all (oo::o2::rest) s R) (∀K:AS->Prop,(∀s',iX P all (o2::rest) s' R->K s')->fw P all oo s K):=⟨Sy⟩
instance:bG (cD P n0 (.seq c d) s Q) (∀K:AS->Prop,(∀s',cD P n0 d s' Q->K s')->cD P n0 c s (pj K Q)):=⟨SR⟩
instance:bG (cD P n0 (.region i l.toArray false) s Q) (jU P l l s (Q .normal)):=⟨Ht⟩
instance:bG (cD P n0 .skip s Q) (Q .normal s):=⟨Oo⟩
instance:bG (cD P n0 (.block i c) s Q) (cD P n0 c s (BP i Q)):=⟨Lv⟩
instance:bG (cD P n0 (.cond x c d) s Q) (GY (s.ev x) (cD P n0 c s Q) (cD P n0 d s Q)):=⟨Oj⟩
instance:bG (cD P n0 (.exit i) s Q) (Q (.exit i) s):=⟨Om⟩
instance:bG (cD P n0 .ret s Q) (Q .ret s):=⟨SP⟩
instance:bG (cD P n0 (.scope c) s Q) (cD P n0 c s (Ea Q)):=⟨LB⟩
instance:bG (cD P n0 (.label i) s Q) (Q .normal s):=⟨Ly⟩
instance:bG (cD P n0 (.goto i) s Q) (Q (.goto i) s):=⟨On⟩
instance:bG (pj K Q .normal s) (K s):=⟨Es⟩
instance:bG (pj K Q (.exit i) s) (Q (.exit i) s):=⟨Lq⟩
instance:bG (pj K Q .ret s) (Q .ret s):=⟨Og⟩
instance:bG (pj K Q (.goto i) s) (Q (.goto i) s):=⟨Lr⟩
instance:bG (BP i Q .normal s) (Q .normal s):=⟨El⟩
instance:bG (BP i Q .ret s) (Q .ret s):=⟨N9⟩
instance:bG (BP i Q (.goto k) s) (Q (.goto k) s):=⟨Lh⟩
instance:bG (BP i Q (.exit k) s) (if k=i then Q .normal s else Q (.exit k) s):=⟨λh=>h⟩
instance:bG (Ea Q .normal s) (Q .normal s):=⟨Er⟩
instance:bG (Ea Q .ret s) (Q .ret s):=⟨Of⟩
instance:bG (Ea Q (.exit i) s) (Q (.exit i) s):=⟨Lo⟩
instance:bG (iu P all [] s R) (R s):=⟨Hi⟩
instance:bG (fY P all [] s R) (R s):=⟨Ls⟩
instance:bG (fY P all (oo::rest) s R) (∀K:AS->Prop,(∀s',fY P all rest s' R->K s')->pk P all oo s K):=⟨SO⟩
instance:bG (ui P all tail [] s R) (fY P all tail s R):=⟨Hl⟩
instance:bG (GX P all [] k s bx R) (bx.all (λb=>b.row.isSome)=true∧R (xQ s bx)):=⟨Oa⟩
end
theorem wD{P:Program}{n0 id:Nat}{l:GE}{s:AS}{Q:bd->AS->Prop}(h:iX P l l s (Q .normal))(u:(ia l.toArray (l.length-1)&&dP l.toArray)=true:=by kernel_rfl)(q:C9 l=true:=by decide):cD P n0 (.region id l.toArray true) s Q:=Ol u q h
theorem wE{P:Program}{n0 id:Nat}{s:AS}{l:GE}{Q:bd->AS->Prop}(h:iu P l l s (Q .normal))(u:ia l.toArray (vN l)=true:=by decide+kernel)(q:dP l.toArray=true:=by kernel_rfl):cD P n0 (.region id l.toArray true) s Q:=Lw u q h
theorem wK{P:Program}{all rest:GE}{oo:Oper}{s:AS}{Q:AS->Prop}(h:∀K:AS->Prop,(∀s',iu P all rest s' Q->K s')->fw P all oo s K)(q:yr oo.op=false:=by decide):iu P all (oo::rest) s Q:=Ob q h
theorem wF{P:Program}{all rest:GE}{oo:Oper}{s:AS}{Q:AS->Prop}(h:fY P all (oo::rest) s Q)(q:yr oo.op=true:=by decide):iu P all (oo::rest) s Q:=Hh q h
section
def encS(s:ByteArray):C5:=[.v (.string s)]
def encI(n:Int):C5:=[.v (.int .i64 n)]
def OZ(x:zJ):C5:=[.v (.int .i64 x.kind),.v (.string x.name),.v (.string x.key),.v (.int .i64 x.val.kind),.v (.int .i64 x.val.num),.v (.string x.val.text)]
def To(x:Ef):C5:=[.v (.int .i64 x.kind),.v (.int .i64 x.num),.v (.string x.text)]
def Tj(x:Jy):C5:=[.v (.int .i64 x.op),.v (.int .i64 x.left.kind),.v (.string x.left.name),.v (.string x.left.key),.v (.int .i64 x.left.val.kind),.v (.int .i64 x.left.val.num),.v (.string x.left.val.text),
 .v (.int .i64 x.right.kind),.v (.string x.right.name),.v (.string x.right.key),.v (.int .i64 x.right.val.kind),.v (.int .i64 x.right.val.num),.v (.string x.right.val.text)]
mutual
def aN:Ex->C5
 | .mk k s l=>[.v (.int .i64 k),.v (.string s),.aB 3 (J4 l) l.length]
def J4:IO->List C5
 | []=>[]
 |x::xs=>aN x::J4 xs
end
theorem pA:∀l:IO,J4 l=l.map aN
 | []=>rfl
 |x::xs=>by rw[J4,pA xs,List.map_cons]
theorem aA(x:Ex):aN x=[.v (.int .i64 x.kind),.v (.string x.label),.aB 3 (x.kids.map aN) x.kids.length]:=by
 obtain⟨k,s,l⟩:=x;rw[aN,pA];rfl
def O0(p:qS):C5:=[.v (.string p.bP),.v (.string p.to),.v (.bool p.path),.v (.string p.label),.v (.string p.name),.v (.int .i64 p.expr.kind),.v (.string p.expr.label),.aB 3 (p.expr.kids.map aN) p.expr.kids.length]
def Wf(q:Lb):C5:=[.aB 8 (q.wH.map O0) q.wH.length,.aB 13 (q.conds.map Tj) q.conds.length,.aB 6 (q.ret.map OZ) q.ret.length,.v (.int .i64 q.range),.v (.int .i64 q.Rb)]
def bY(l:B0):AV:= .aB 1 (l.map encS) l.length
def Y8(l:M2):AV:= .aB 1 (l.map encI) l.length
theorem bz(n:Nat)(l:B0):bD n (l.map encS)=true:=bw _ (λ_=>rfl) l
theorem U3(n:Nat)(l:M2):bD n (l.map encI)=true:=bw _ (λ_=>rfl) l
theorem KW(n:Nat)(l:List zJ):bD n (l.map OZ)=true:=bw _ (λ_=>rfl) l
theorem KV(n:Nat)(l:List Jy):bD n (l.map Tj)=true:=bw _ (λ_=>rfl) l
theorem fp(n:Nat)(x:Ex):aU n (aN x)=true:=by
 induction x using Ex.ind with
 |h k s l ih=>
  rw[aN,pA];simp only[aU,AV.wf,afo,Bool.true_and]
  grind[DQ]
theorem bF(n:Nat)(l:IO):bD n (l.map aN)=true:=bw _ (fp n) l
theorem GH(n:Nat)(p:qS):aU n (O0 p)=true:=by simp only[O0,aU,AV.wf,bF,afo]
theorem KY(n:Nat)(l:PP):bD n (l.map O0)=true:=bw _ (GH n) l
theorem U4(n:Nat)(q:Lb):aU n (Wf q)=true:=by simp only[Wf,aU,AV.wf,KY,KV,KW,afo]
attribute [go_sem] bY Y8 encS encI OZ To Tj O0 Wf bz U3 KW KV fp bF GH KY U4
@[go_sem] theorem getD_map{α β:Type}(f:α->β)(l:List α)(k:Nat)(d:β)(h:k<l.length):(l.map f).getD k d=f l[k]:=by
 grind
section
variable {D:Nat->Prop} {nu:EQ} {o:AC} {w:World} {P:Program}
theorem xT{b:Nat}:∀{cs:IR}{off:Nat},(∀(j:Nat)v,cs[j]?=some v->w.cell? ⟨b,off+j,none⟩=some v)->dL w b off cs
 | [],_,_=>trivial
 |y::cs,off,h=>⟨by simpa using h 0 y rfl,xT (off:=off+1) (λj v q=>by rw[show off+1+j=off+(j+1) by omega];simp_all)⟩
def Sn(D:Nat->Prop)(nu:EQ)(o:AC)(w:World)(cs:C5)(xs:IR):Prop:=cs.length=xs.length∧∀(j:Nat)c x,cs[j]?=some c->xs[j]?=some x->RA D nu o w c x
theorem RA.Zu{α:Type}{z:Nat}{enc:α->C5}{rd:α->IR->Prop}{xs:List α}{v:Value}(h:RA D nu o w (.aB z (xs.map enc) xs.length) v)(q:∀x,x∈xs->∀cs:IR,Sn D nu o w (enc x) cs->rd x cs):gJ w z rd xs v:=by
 generalize hn:xs.length=n at h;generalize O:xs.map enc=rows at h
 cases h with
 |b5=>
  exact .inl ⟨.inl rfl,afp.1 hn⟩
 |cp _ a=>
  exact .inl ⟨.inr ⟨a,rfl⟩,afp.1 hn⟩
 |aB _ _ _ b off cap f h1 A U h4 h5 h6 h7 Y=>
  subst O;simp only[List.length_map]at A;refine .inr ⟨b,off,cap,by rw[hn],A,U,λi x H=>?_⟩
  have hi:(xs.map enc)[i]?=some (enc x):=by grind
  refine⟨(List.range (enc x).length).map (f i),q x (aeQ H) _ ⟨zk,λj c y W u=>?_⟩,xT (λj y u=>?_)⟩
  ·grind
  ·rw[aeE]at u
   have V:j<(enc x).length:=by
    grind
   simp_all
theorem QS{vs cs:IR}(h:Sn D nu o w (vs.map AV.v) cs):cs=vs:=by
 apply List.ext_getElem?
 intro i;have hl:=h.1;simp only[List.length_map]at hl
 rcases Nat.lt_or_ge i vs.length with q|q
 ·have A:(vs.map AV.v)[i]?=some (.v vs[i]):=by simp[q]
  have u:cs[i]?=some cs[i]:=aeC zd
  have:=(h.2 i _ _ A u).di
  grind
 grind
theorem Dy:∀(x:Ex)(cs:IR),Sn D nu o w (aN x) cs->fE w x cs:=by
 intro x
 induction x using Ex.ind with
 |h k s l ih=>
  intro cs h;rw[aN,pA]at h;obtain⟨hl,q⟩:=h
  match cs,hl with
  | [a,b,c],_=>
   have H:=(q 0 _ a rfl rfl).di;have A:=(q 1 _ b rfl rfl).di;have u:=q 2 _ c rfl rfl
   grind[fE,gw,RA.Zu]
theorem Ds{cs:C5}{v:Value}(h:RA D nu o w (.agg cs) v):∃xs:IR,v=.agg xs.toArray∧Sn D nu o w cs xs:=by
 cases h with
 |agg _ xs O u H=>exact⟨xs.toList,zk,zd,λj c x q A=>u j c x q (by grind)⟩
theorem RA.FM{α:Type}{z:Nat}(hz:0<z){enc:α->C5}{rd:α->IR->Prop}{xs:List α}{v:Value}(hD:∀b off n c,v=.slice (some ⟨b,off,none⟩) n c->b<w.heap.size->D b)(h:gJ w z rd xs v)(hlen:∀x,(enc x).length=z)
  (U:∀x,x∈xs->∀cs:IR,rd x cs->Sn D nu [] w (enc x) cs∧∀y∈cs,y.oneCell'=true):RA D nu [] w (.aB z (xs.map enc) xs.length) v:=by
 rcases h with⟨rfl|⟨a,rfl⟩,rfl⟩|⟨b,off,cap,rfl,h1,h2,h3⟩
 ·exact .b5 z
 ·exact .cp z a
 ·have hex:∀i:Nat,∃cs:IR,∀x,xs[i]?=some x->rd x cs∧dL w b (off+i*z) cs:=λi=>by
   cases A:xs[i]? with
   |none=>simp_all
   |some x=>
    simp_all
  let g:Nat->IR:=λi=>Classical.choose (hex i)
  have hg:∀i x,xs[i]?=some x->rd x (g i)∧dL w b (off+i*z) (g i):=λi x A=>Classical.choose_spec (hex i) x A
  have key:∀(i j:Nat)row c,(xs.map enc)[i]?=some row->row[j]?=some c->∃y,(g i)[j]?=some y∧w.cell? ⟨b,off+i*z+j,none⟩=some y∧RA D nu [] w c y∧y.oneCell'=true:=by
   intro i j row c hi O;rw[aeE]at hi
   cases A:xs[i]? with
   |none=>grind
   |some x=>
    rw[A]at hi;cases hi;obtain⟨q1,q2⟩:=hg i x A;obtain⟨W,Y⟩:=U x (aeQ A) _ q1
    have V:j<(g i).length:=by rw[<-W.1];grind
    have e:=aeC V;exact⟨_,e,ma q2 j _ e,W.2 j c _ O e,Y _ (aeQ e)⟩
  refine .aB z _ _ b off cap (λi j=>(g i).getD j Go.undef) zk (by grind) h2 (λhne=>?_) (λi row hi=>?_) (λi j row c hi O=>?_) (λi j row c hi O=>?_) (λi j row c hi O=>?_)
  ·obtain⟨x,u,rfl⟩:∃x u,xs=x::u:=by
    cases xs with
    |nil=>grind
    |cons x u=>grind
   obtain⟨c,hc⟩:∃c,(enc x)[0]?=some c:=⟨_,aeC (by grind)⟩;obtain⟨y,_,q,_⟩:=key 0 0 (enc x) c zk hc;have H:=nW q;exact⟨H,br _ _,hD _ _ _ _ rfl H⟩
  ·grind
  ·grind
  ·grind
  grind
theorem RA.Dm(H:∀b,b<w.heap.size->D b){α:Type}{z:Nat}(u:0<z){enc:α->C5}{rd:α->IR->Prop}{xs:List α}{v:Value}(h:gJ w z rd xs v)(hlen:∀x,(enc x).length=z)
  (q:∀x,x∈xs->∀cs:IR,rd x cs->Sn D nu [] w (enc x) cs∧∀y∈cs,y.oneCell'=true):RA D nu [] w (.aB z (xs.map enc) xs.length) v:=RA.FM u (λb _ _ _ _ A=>H b A) h hlen q
theorem we(vs:IR):Sn D nu o w (vs.map AV.v) vs:=⟨zk,λj c x q u=>by
 rw[aeE,u]at q;cases q;exact .v x⟩
theorem F3{α:Type}{z:Nat}{rd:α->IR->Prop}{xs:List α}{v:Value}(h:gJ w z rd xs v):v.oneCell'=true:=by
 rcases h with⟨rfl|⟨a,rfl⟩,_⟩|⟨b,off,cap,rfl,_⟩<;>rfl
theorem Ro{l:B0}{v:Value}(u:∀b off n c,v=.slice (some ⟨b,off,none⟩) n c->D b)(h:rk w l v):RA D nu [] w (bY l) v:=
 RA.FM zd (λb off n c e _=>u b off n c e) h (λ_=>rfl) (λx _ cs q=>by subst q;exact⟨we [.string x],by simp[Value.oneCell']⟩)
theorem OY(x:Ex):(aN x).length=3:=by rw[aA];rfl
theorem YZ(U:∀b,b<w.heap.size->D b):∀(x:Ex)(cs:IR),fE w x cs->Sn D nu [] w (aN x) cs∧∀y∈cs,y.oneCell'=true:=by
 intro x
 induction x using Ex.ind with
 |h k s l ih=>
  intro cs h;rw[fE]at h;obtain⟨sv,rfl,h⟩:=h;have A:=gw.1 h;have V:=RA.Dm (nu:=nu) U (by omega:0<3) A OY (λy H cs O=>ih y H cs O);have W:=F3 A;rw[aN,pA];refine⟨⟨rfl,λj c y q u=>?_⟩,by grind[Value.oneCell']⟩
  match j,q,u with
  |0,q,u=>cases q;cases u;exact .v _
  |1,q,u=>cases q;cases u;exact .v _
  |2,q,u=>grind
  |j+3,q,u=>simp at q
theorem Tt{D:Nat->Prop}{nu:EQ}{w:World}{v:Value}(q:RO D nu [] w){e:Ending}{w':World}(h:Ha w v e w'):NT D nu [] w (λA o'=>A = .v v∧o'=[]) e w':=by
 obtain⟨rfl,u⟩:=h;exact⟨v,nu,[],.v v,rfl,aG u,q.below u,.v v,rfl,rfl⟩
theorem aj.vb{f:FuncId}{args:C5}{v:Value}(H:fP P f=true)(O:aU 0 args=true)(h:∀D nu w vargs,gC D nu [] w args vargs->Calls P f vargs w (Ha w v)):aj P f args (.v v):=
 ⟨⟨O,rfl⟩,H,λD nu w vargs q u=>(h D nu w vargs u).mono (λe w' A=>Tt q A)⟩
theorem aj.Kr{f:FuncId}{args:C5}{l:B0}(O:fP P f=true)(U:aU 0 args=true)
  (h:∀D nu w vargs,gC D nu [] w args vargs->Calls P f vargs w (λe w'=>∃v,e=.returned v∧rk w' l v∧Below w.heap.size w w'∧∀b off n c,v=.slice (some ⟨b,off,none⟩) n c->w.heap.size<=b)):aj P f args (bY l):=
 ⟨⟨U,by grind[bY,AV.wf,bz]⟩,O,λD nu w vargs q u=>(h D nu w vargs u).mono (λe w' H=>by
  obtain⟨v,rfl,W,A,V⟩:=H
  exact⟨v,nu,[],bY l,rfl,aG A,q.below A,Ro (λb off n c e=>q.up b (V b off n c e)) W,rfl,rfl⟩)⟩
theorem aj.args{f:FuncId}{args args':C5}{r:AV}(h:aj P f args r)(A:aU 0 args'=true)(hl:∀D nu w vargs,gC D nu [] w args' vargs->gC D nu [] w args vargs):aj P f args' r:=
 ⟨⟨A,h.1.2⟩,h.2.1,λD nu w vargs q u=>h.2.2 D nu w vargs q (hl D nu w vargs u)⟩
theorem ik{a:AV}{vargs:Array Value}(h:gC D nu o w [a] vargs):∃x,vargs = #[x]∧RA D nu o w a x:=by
 obtain⟨x,q⟩:=List.length_eq_one_iff.1 (by simpa using h.len.symm:vargs.toList.length=1)
 have e:vargs = #[x]:=by grind
 subst e;exact⟨x,rfl,h.at' 0 a x rfl rfl⟩
theorem UB{a b:AV}{vargs:Array Value}(h:gC D nu o w [a,b] vargs):∃x y,vargs = #[x,y]∧RA D nu o w a x∧RA D nu o w b y:=by
 have hl:vargs.toList.length=2:=by simpa using h.len.symm
 match q:vargs.toList,hl with
 | [x,y],_=>
  have e:vargs = #[x,y]:=by grind
  subst e;exact⟨x,y,rfl,h.at' 0 a x rfl rfl,h.at' 1 b y rfl rfl⟩
end
open Go.RowKit Go.ChangeShapes Go.Deep
def Nk(P:Program)(t:TypeId):Option (List (TypeId×Nat×Nat)):=match P.underlying t with
 |some (.struct fs)=>some (fs.toList.map λf=>(f.type,f.offset,P.cellsOf f.type))
 |_=>none
section
variable {H:Type} {enc:TypeId×Value->H} {P:Program} {w:World}
def Td(enc:TypeId×Value->H)(P:Program)(w:World)(n:Nat)(t:TypeId)(cs:IR):Prop:=∃y,DataW.trod enc P w 0 (λ_=>true) true n t cs=some y∧∀k∈y.1.weights P t,k<=reachBytes
theorem wi{t:TypeId}:∀{l:List (DataW H)}{d:DataW H},d∈l->∀k∈d.weights P t,k∈DataW.weightsAll P t l
 |y::l,d,q,k,u=>by
  rw[DataW.weightsAll,List.mem_append]
  rcases List.mem_cons.1 q with rfl|q
  ·exact .inl u
  ·exact .inr (wi q k u)
theorem DM{n:Nat}{t:TypeId}{cs:IR}(q:P.underlying t=some (.int .i64))(h:Td enc P w n t cs):∃k,cs=[.int .i64 k]∧(Lit.int .i64 k).wf=true:=by
 obtain⟨y,h,_⟩:=h;obtain⟨k,rfl,_,u⟩:=DataW.trod_int q h;exact⟨k,rfl,u⟩
theorem vu{n:Nat}{t:TypeId}{cs:IR}(u:P.underlying t=some .string)(h:Td enc P w n t cs):∃s,cs=[.string s]∧wG s:=by
 obtain⟨y,h,q⟩:=h;obtain⟨s,rfl,rfl,A⟩:=DataW.trod_string u h;refine⟨s,rfl,?_⟩
 have:=q s.data.toList.length (by rw[DataW.weights];exact List.mem_singleton.2 rfl)
 unfold reachBytes at this;unfold wG;have e:s.size=s.data.toList.length:=rfl;omega
theorem ni{n:Nat}{t:TypeId}{cs:IR}{l:List (TypeId×Nat×Nat)}(A:Nk P t=some l)(h:Td enc P w n t cs) :
  ∃m,n=m+1∧cs.length=P.cellsOf t∧∀(i:Nat)T off sz,l[i]?=some (T,off,sz)->Td enc P w m T ((cs.drop off).take sz):=by
 obtain⟨y,h,U⟩:=h;unfold Nk at A
 split at A
 ·rename_i fs O;cases A;obtain⟨xs,m,rfl,rfl,h1,Y,W⟩:=DataW.trod_struct O h;refine⟨m,rfl,h1,λi T off sz hi=>?_⟩;rw[aeE]at hi
  cases u:fs[i]? with
  |none=>simp[u]at hi
  |some f=>
   simp[u]at hi;obtain⟨rfl,rfl,rfl⟩:=hi
   have:=W i f u
   have q:i<xs.length:=by rw[Y];exact(Array.getElem?_eq_some_iff.1 u).1
   rw[aeC q]at this;refine⟨_,this,λk V=>U k ?_⟩;simp only[DataW.weights,O];exact DataW.weights_mem_each (j:=i) (t:=f.type) (d:=xs[i].1) (by simp[u]) (by simp[q]) k V
 ·cases A
theorem Ji{α:Type} [Inhabited α]{n:Nat}{t e:TypeId}{z:Nat}{v:Value}{rd:α->IR->Prop}{okx:α->Prop}(ht:P.underlying t=some (.slice e))(hz:P.cellsOf e=z)(hz0:0<z)(hby:0<P.bytesOf e)
  (h:Td enc P w n t [v])(hrd:∀m cs,n=m+1->Td enc P w m e cs->∃x,rd x cs∧okx x):∃xs:List α,gJ w z rd xs v∧(∀x,x∈xs->okx x)∧xs.length<=140737488355328:=by
 obtain⟨y,h,hy⟩:=h
 rcases DataW.trod_slice ht h with⟨h0,_⟩|⟨a,len,cap,elems,rest,m,rfl,h0,rfl,hb,hl,hm,hlen,O,U,_⟩
 ·cases h0;exact⟨[],.inl ⟨.inl rfl,rfl⟩,λx A=>(by cases A),zk⟩
 ·cases h0;rw[hz]at O U;obtain⟨hrl,hre⟩:=U rfl;have hw:=hy ((elems.length+rest.length)*P.bytesOf e) (by simp[DataW.weights,ht])
  have hln:len<=140737488355328:=by
   unfold reachBytes at hw
   have:elems.length+rest.length<=(elems.length+rest.length)*P.bytesOf e:=Nat.le_mul_of_pos_right _ hby
   omega
  by_cases hc:cap=0
  ·subst hc
   obtain rfl:len=0:=zd
   exact⟨[],.inl ⟨.inr ⟨a,rfl⟩,rfl⟩,λx A=>(by cases A),zk⟩
  ·have hspot:a.spot=none:=by
    have k:∃u,((w.cells? 0 (a.add (0*z)) z).bind (DataW.trod enc P w 0 (λ_=>true) true m e))=some u:=by
     rcases Nat.eq_zero_or_pos len with q|q
     ·subst q
      have:=hre 0 zd
      rw[aeC zd]at this;exact⟨_,this⟩
     ·have:=O 0 q
      rw[aeC zd]at this;exact⟨_,this⟩
    obtain⟨u,hu⟩:=k;obtain⟨cs,Y,_⟩:=afq.1 hu;obtain⟨_,h2,h3⟩:=World.cells?_some Y;have h4:=h3 0 hz0;rw[aeC zd]at h4
    have:=World.cell?_spot h4
    simpa [Addr.add]using this
   obtain⟨b,o,sp⟩:=a;cases hspot
   have A:∀i,i<len->∃x:α,okx x∧∃cs,rd x cs∧dL w b (o+i*z) cs:=λi hi=>by
    have Y:=O i hi;rw[aeC zd]at Y;obtain⟨cs,h2,h3⟩:=afq.1 Y
    obtain⟨x,q1,q2⟩:=hrd m cs rfl ⟨_,h3,λk hk=>hy k (by
     simp only[DataW.weights,ht]
     refine ae7 _ (List.mem_append_left _ (wi (List.mem_map_of_mem (List.getElem_mem (l:=elems) (n:=i) zd)) k hk)))⟩
    obtain⟨_,h4,h5⟩:=World.cells?_some h2;refine⟨x,q2,cs,q1,?_⟩
    have key:∀(l:IR)(off:Nat),(∀(j:Nat)v,l[j]?=some v->w.cell? ⟨b,off+j,none⟩=some v)->dL w b off l:=by
     intro l
     induction l with
     |nil=>exactλ_ _=>trivial
     |cons y l ih=>exactλoff h=>⟨by simpa using h 0 y rfl,ih (off+1) (λj v W=>by rw[show off+1+j=off+(j+1) by omega];exact h (j+1) v (by simpa using W))⟩
    refine key cs _ (λj v W=>?_);have hjl:=(List.getElem?_eq_some_iff.1 W).1;have h6:=h5 j zd;rw[W,Addr.add_lit,Addr.add_lit]at h6;exact h6
   obtain⟨f,hf⟩:=choose_lt A
   refine⟨(List.range len).map f,.inr ⟨b,o,cap,zk,by simpa using hl,hm,λi x hi=>?_⟩,λx A=>?_,ahy⟩
   ·rw[aeE]at hi
    have V:i<len:=by
     rcases Nat.lt_or_ge i len with q|q
     ·exact q
     ·rw[List.getElem?_eq_none (by simpa using q)]at hi;cases hi
    rw[List.getElem?_range V]at hi;cases hi;exact(hf i V).2
   ·obtain⟨i,hi,rfl⟩:=List.mem_map.1 A;exact(hf i (List.mem_range.1 hi)).1
end
section
variable {H:Type} {enc:TypeId×Value->H} {w:World}
instance:Inhabited Ex:=⟨.mk 0 ⟨#[]⟩ []⟩
instance:Inhabited zJ:=⟨⟨0,⟨#[]⟩,⟨#[]⟩,⟨0,0,⟨#[]⟩⟩⟩⟩
instance:Inhabited Jy:=⟨⟨0,default,default⟩⟩
instance:Inhabited qS:=⟨⟨⟨#[]⟩,⟨#[]⟩,false,⟨#[]⟩,⟨#[]⟩,default⟩⟩
theorem aaz:prog.underlying 3=some (.int .i64):=zo
theorem Jm:prog.underlying 9=some .string:=zo
theorem uVK:prog.underlying 169=some (.int .i64):=zo
theorem uEK:prog.underlying 22=some (.int .i64):=zo
theorem acg:Nk prog 171=some [(169,0,1),(3,1,1),(9,2,1)]:=zo
theorem ab3:prog.cellsOf 171=3:=zo
theorem sEx:Nk prog 25=some [(22,0,1),(9,1,1),(23,2,1)]:=zo
theorem cEx:prog.cellsOf 25=3:=zo
theorem ac2:prog.underlying 23=some (.slice 25):=zo
theorem bEx:0<prog.bytesOf 25:=of_decide_eq_true zo
theorem Xi{n:Nat}{cs:IR}(h:Td enc prog w n 171 cs):∃x:Ef,cs=x.cells∧x.ok:=by
 obtain⟨m,_,hl,q⟩:=ni acg h;rw[ab3]at hl
 match cs,hl with
 | [a,b,c],_=>
  obtain⟨k,e0,_⟩:=DM uVK (q 0 _ _ _ rfl);obtain⟨l,O,_⟩:=DM aaz (q 1 _ _ _ rfl);obtain⟨s,A,u⟩:=vu Jm (q 2 _ _ _ rfl);cases e0;cases O;cases A;exact⟨⟨k,l,s⟩,rfl,u⟩
theorem aav:∀(n:Nat){cs:IR},Td enc prog w n 25 cs->∃x:Ex,fE w x cs∧x.ok:=by
 intro n
 induction n using Nat.strongRecOn with
 |_ n ih=>
  intro cs h;obtain⟨m,rfl,hl,q⟩:=ni sEx h;rw[cEx]at hl
  obtain⟨a,b,c,rfl⟩:∃a b c,cs=[a,b,c]:=by
   rcases cs with _|⟨a,_|⟨b,_|⟨c,_|⟨d,cs⟩⟩⟩⟩
   ·cases hl
   ·cases hl
   ·cases hl
   ·exact⟨a,b,c,rfl⟩
   ·simp at hl
  obtain⟨k,e0,_⟩:=DM uEK (q 0 _ _ _ rfl);obtain⟨s,W,V⟩:=vu Jm (q 1 _ _ _ rfl);obtain⟨xs,U,O,_⟩:=Ji ac2 cEx zd bEx (q 2 _ _ _ rfl) (rd:=fE w) (okx:=Ex.ok) (λu Y hm A=>ih u zd A);cases e0;cases W;exact⟨.mk k s xs,by rw[fE];exact⟨_,rfl,gw.2 U⟩,by rw[Ex.ok];exact⟨V,qn.2 O⟩⟩
end
open Go.ChangeShapes Go.WideShapes Go.ChangeAt Go.RowKit
theorem aj.Xl{P:Program}{f:FuncId}{args:C5}{v:Value}(h:aj P f args (.v v)){w:World}{vargs:Array Value}(A:gC (λ_=>True) (λ_ _=>Go.undef) [] w args vargs)(V:gH (λ_=>True) (λ_ _=>Go.undef) [] w:=by exactλg T cs H=>by cases H) :
  Calls P f vargs w (Ha w v):=by
 refine(h.2.2 _ _ w vargs (RO.nil _ _ _ (λ_ _=>trivial) V) A).mono λe w' O=>?_;obtain⟨x,nu',o',r,rfl,q,_,u,rfl,rfl⟩:=O;have W:=u.di;subst W;exact⟨rfl,q.os,q.tape,q.output,q.size,λb U=>(q.keep b U (br _ _)).1⟩
section
variable {H:Type} {enc:TypeId×Value->H} {w:World}
end
open Go.ChangeShapes Go.WideShapes Go.ChangeAt Go.RowKit
section
variable {H:Type} {enc:TypeId×Value->H} {w:World}
theorem UW{v:Value}{d:DataW H}{ps:List MemPlace}(h:DataW.Trod enc prog w 0 (λ_=>true) true 25 v d ps)(u:∀k∈d.weights prog 25,k<=reachBytes) :
  ∃(x:Ex)(cx:IR),v=.agg cx.toArray∧fE w x cx∧x.ok:=by
 obtain⟨n,h⟩:=h;have q:Td enc prog w n 25 v.cells.toList:=⟨_,h,u⟩;obtain⟨m,_,hl,_⟩:=ni sEx q;rw[cEx]at hl;obtain⟨x,O,A⟩:=aav n q
 cases v with
 |agg cs=>exact⟨x,cs.toList,zk,O,A⟩
 |_=>simp[Value.cells]at hl
theorem O4{D:Nat->Prop}{nu:EQ}(O:∀b,b<w.heap.size->D b){x:Ex}{cx:IR}(h:fE w x cx):RA D nu [] w (.agg (aN x)) (.agg cx.toArray):=by
 obtain⟨u,U⟩:=YZ (nu:=nu) O x cx h;exact .agg _ _ (by simpa using u.1) (λi c y A q=>u.2 i c y A (by simpa using q)) (λi y q=>U y (aeQ (by simpa using q)))
end
inductive dU(L:B0->Prop):B0->Prop
 |nil:dU L []
 |cons (u v:B0):u≠[]->L u->dU L v->dU L (u++v)
theorem dU.append{L:B0->Prop}{u v:B0}(h:dU L u)(k:dU L v):dU L (u++v):=by
 induction h with
 |nil=>exact k
 |cons a b A q _ ih=>rw[List.append_assoc];exact .cons a _ A q ih
theorem dU.one{L:B0->Prop}{u:B0}(h:L u):dU L u:=by
 by_cases q:u=[]
 ·subst q;exact .nil
 ·have:=dU.cons u [] q h .nil
  grind
theorem dU.inv{L:B0->Prop}{w:B0}(h:dU L w):w=[]∨∃u v,w=u++v∧u≠[]∧L u∧dU L v:=by
 cases h with
 |nil=>grind
 |cons a b H A q=>grind
mutual
def Lg:Ex->B0->Prop
 | .mk k s l,w=>if k=1 then w=[s]else if k=2 then dO l w else if k=3 then jW l w else if k=4 then dU (xv l) w
  else if k=5 then ∃u v,w=u++v∧xv l u∧dU (xv l) v else if k=6 then w=[]∨xv l w else False
def dO:IO->B0->Prop
 | [],w=>w=[]
 |x::xs,w=>∃u v,w=u++v∧Lg x u∧dO xs v
def jW:IO->B0->Prop
 | [],_=>False
 |x::xs,w=>Lg x w∨jW xs w
def xv:IO->B0->Prop
 | [],_=>False
 |x::_,w=>Lg x w
end
theorem uo:∀{l:IO}{w:B0},jW l w ↔ ∃x∈l,Lg x w
 | [],w=>by simp[jW]
 |x::xs,w=>by simp[jW,uo (l:=xs)]
mutual
def aS:Ex->Bool
 | .mk k _ l=>if k=4 then true else if k=6 then true else if k=3 then wW l else if k=2 then dz l else if k=5 then dz l else false
def wW:IO->Bool
 | []=>false
 |x::xs=>aS x||wW xs
def dz:IO->Bool
 | []=>true
 |x::xs=>aS x&&dz xs
end
theorem rG:∀l:IO,wW l=l.any aS
 | []=>rfl
 |x::xs=>by rw[wW,rG xs];rfl
theorem nM:∀l:IO,dz l=l.all aS
 | []=>rfl
 |x::xs=>by rw[dz,nM xs];rfl
theorem qe:∀{l:IO},dO l [] ↔ ∀x∈l,Lg x []
 | []=>by simp[dO]
 |x::xs=>by
  rw[dO]
  constructor
  ·rintro⟨u,v,h,H,A⟩;obtain⟨rfl,rfl⟩:=List.append_eq_nil_iff.1 h.symm;intro y q
   rcases List.mem_cons.1 q with rfl|q
   ·exact H
   ·exact qe.1 A y q
  ·intro h;exact⟨[],[],rfl,h x afr,qe.2 (λy q=>h y (ae7 _ q))⟩
inductive Fit:Ex->Prop
 |lab (s:ByteArray):Fit (.mk 1 s [])
 |many (k:Int) (s:ByteArray) (l:IO):(k=2∨k=3)->1<l.length->(∀x∈l,Fit x)->Fit (.mk k s l)
 |one (k:Int) (s:ByteArray) (x:Ex):(k=4∨k=5∨k=6)->Fit x->Fit (.mk k s [x])
theorem iL{x:Ex}(h:Fit x):aS x=true↔Lg x []:=by
 induction h with
 |lab s=>simp[aS,Lg]
 |many k s l q hl _ ih=>
  rcases q with rfl|rfl
  ·simp only[aS,Lg,nM,qe,Int.reduceEq,if_false,if_true]
   grind
  ·simp only[aS,Lg,rG,uo,List.any_eq_true,Int.reduceEq,if_false,if_true]
   grind
 |one k s x q _ ih=>
  rcases q with rfl|rfl|rfl
  ·simp[aS,Lg,dU.nil]
  ·simp only[aS,Lg,dz,xv,Int.reduceEq,if_false,if_true,afo];rw[ih]
   constructor
   ·intro h;exact⟨[],[],rfl,h,.nil⟩
   simp_all
  ·simp[aS,Lg]
def GO(w:B0)(i j:Nat):B0:=(w.drop i).take (j-i)
theorem Oz(w:B0)(i:Nat):GO w i i=[]:=by simp[GO]
theorem J0{w:B0}{i j k:Nat}(u:i<=j)(q:j<=k):GO w i j++GO w j k=GO w i k:=by
 unfold GO
 have:k-i=(j-i)+(k-j):=zd
 rw[this,List.take_add,List.drop_drop,show i+(j-i)=j by omega]
theorem sF{w:B0}{i j:Nat}(h:j<=w.length):(GO w i j).length=j-i:=by
 grind[GO]
theorem Oy{w u v:B0}{i k:Nat}(A:i<=k)(q:k<=w.length)(h:GO w i k=u++v):∃j,i<=j∧j<=k∧GO w i j=u∧GO w j k=v:=by
 have hl:=sF (i:=i) q;rw[h,aew]at hl;have e:=J0 (w:=w) (i:=i) (j:=i+u.length) (k:=k) zd zd
 grind[sF,List.append_inj]
def Tk(L:B0->Prop)(w:B0)(i j:Nat):Prop:=i<=j∧j<=w.length∧L (GO w i j)
theorem uq:∀{l m:IO}{w:B0},dO (l++m) w ↔ ∃u v,w=u++v∧dO l u∧dO m v
 | [],m,w=>by
  constructor
  ·intro h;exact⟨[],w,rfl,by rw[dO],h⟩
  ·rintro⟨u,v,rfl,h,k⟩
   grind[dO]
 |x::l,m,w=>by
  rw[List.cons_append,dO]
  constructor
  ·rintro⟨u,v,rfl,A,q⟩;obtain⟨a,b,rfl,O,H⟩:=uq.1 q;exact⟨u++a,b,zk,by rw[dO];exact⟨u,a,rfl,A,O⟩,H⟩
  ·rintro⟨u,v,rfl,h,k⟩;rw[dO]at h;obtain⟨a,b,rfl,A,q⟩:=h;exact⟨a,b++v,zk,A,uq.2 ⟨b,v,rfl,q,k⟩⟩
theorem Tk.word{L:B0->Prop}{w:B0}:Tk L w 0 w.length↔L w:=by
 simp[Tk,GO]
mutual
def aH:Ex->B0
 | .mk k s l=>if k=1 then [s]else aV l
def aV:IO->B0
 | []=>[]
 |x::xs=>aH x++aV xs
end
mutual
def mq:Ex->Nat->Nat->Prop
 | .mk k _ l,b,p=>if k=1 then p=b+1 else if k=2 then jz l b p else iY l b p
def jz:IO->Nat->Nat->Prop
 | [],_,_=>False
 |x::xs,b,p=>mq x b p∨(aS x=true∧jz xs (b+(aH x).length) p)
def iY:IO->Nat->Nat->Prop
 | [],_,_=>False
 |x::xs,b,p=>mq x b p∨iY xs (b+(aH x).length) p
end
mutual
def lj:Ex->Nat->Nat->Prop
 | .mk k _ l,b,p=>if k=1 then p=b+1 else if k=2 then lz l b p else iZ l b p
def lz:IO->Nat->Nat->Prop
 | [],_,_=>False
 |x::xs,b,p=>(dz xs=true∧lj x b p)∨lz xs (b+(aH x).length) p
def iZ:IO->Nat->Nat->Prop
 | [],_,_=>False
 |x::xs,b,p=>lj x b p∨iZ xs (b+(aH x).length) p
end
mutual
def kL:Ex->Nat->Nat->Nat->Prop
 | .mk k _ l,b,p,q=>if k=1 then False else if k=2 then jy l b p q else jV l b p q∨((k=4∨k=5)∧iZ l b p∧iY l b q)
def jy:IO->Nat->Nat->Nat->Prop
 | [],_,_,_=>False
 |x::xs,b,p,q=>kL x b p q∨jy xs (b+(aH x).length) p q∨(lj x b p∧jz xs (b+(aH x).length) q)
def jV:IO->Nat->Nat->Nat->Prop
 | [],_,_,_=>False
 |x::xs,b,p,q=>kL x b p q∨jV xs (b+(aH x).length) p q
end
theorem um:∀{l:IO}{b p:Nat},jz l b p->iY l b p
 | [],_,_,h=>h
 |x::xs,b,p,h=>by
  rw[jz]at h;rw[iY];exact h.imp id (λh=>um h.2)
theorem BX:∀{l:IO}{b p:Nat},lz l b p->iZ l b p
 | [],_,_,h=>h
 |x::xs,b,p,h=>by
  rw[lz]at h;rw[iZ];exact h.imp (λh=>h.2) BX
theorem dM{k:Int}(h:k≠1)(s:ByteArray)(l:IO):aH (.mk k s l)=aV l:=by rw[aH,if_neg h]
theorem jD(x:Ex):∀{b p:Nat},mq x b p->b<p∧p<=b+(aH x).length:=by
 induction x using Ex.ind with
 |h k s l ih=>
  intro b p h
  have key:∀(m:IO),(∀x∈m,x∈l)->∀{b p:Nat},iY m b p->b<p∧p<=b+(aV m).length:=by
   intro m
   induction m with
   |nil=>intro _ b p h;exact h.elim
   |cons x xs ihm=>
    grind[iY,aV,aew,afr,ae7]
  rw[mq]at h
  by_cases q:k=1
  ·rw[if_pos q]at h;rw[aH,if_pos q];simp;omega
  ·rw[if_neg q]at h;rw[dM q]
   split at h
   ·exact key l (λ_ h=>h) (um h)
   ·exact key l (λ_ h=>h) h
theorem ix:∀{l:IO}{b p:Nat},iY l b p->b<p∧p<=b+(aV l).length
 | [],b,p,h=>h.elim
 |x::xs,b,p,h=>by
  rw[iY]at h;rw[aV,aew]
  rcases h with h|h
  ·have:=jD x h;omega
  ·have:=ix h;omega
theorem iH(x:Ex):∀{b p:Nat},lj x b p->b<p∧p<=b+(aH x).length:=by
 induction x using Ex.ind with
 |h k s l ih=>
  intro b p h
  have key:∀(m:IO),(∀x∈m,x∈l)->∀{b p:Nat},iZ m b p->b<p∧p<=b+(aV m).length:=by
   intro m
   induction m with
   |nil=>intro _ b p h;exact h.elim
   |cons x xs ihm=>
    grind[iZ,aV,aew,afr,ae7]
  rw[lj]at h
  by_cases q:k=1
  ·rw[if_pos q]at h;rw[aH,if_pos q];simp;omega
  ·rw[if_neg q]at h;rw[dM q]
   split at h
   ·exact key l (λ_ h=>h) (BX h)
   ·exact key l (λ_ h=>h) h
theorem iy:∀{l:IO}{b p:Nat},iZ l b p->b<p∧p<=b+(aV l).length
 | [],b,p,h=>h.elim
 |x::xs,b,p,h=>by
  rw[iZ]at h;rw[aV,aew]
  rcases h with h|h
  ·have:=iH x h;omega
  ·have:=iy h;omega
theorem fN(x:Ex):∀{b p q:Nat},kL x b p q->(b<p∧p<=b+(aH x).length)∧b<q∧q<=b+(aH x).length:=by
 induction x using Ex.ind with
 |h k s l ih=>
  intro b p q h
  have key:∀(m:IO),(∀x∈m,x∈l)->∀{b p q:Nat},jV m b p q->(b<p∧p<=b+(aV m).length)∧b<q∧q<=b+(aV m).length:=by
   intro m
   induction m with
   |nil=>intro _ b p q h;exact h.elim
   |cons x xs ihm=>
    grind[jV,aV,aew,afr,ae7]
  have keyS:∀(m:IO),(∀x∈m,x∈l)->∀{b p q:Nat},jy m b p q->(b<p∧p<=b+(aV m).length)∧b<q∧q<=b+(aV m).length:=by
   intro m
   induction m with
   |nil=>intro _ b p q h;exact h.elim
   |cons x xs ihm=>
    grind[jy,aV,aew,afr,ae7,iH,ix,um]
  rw[kL]at h
  by_cases u:k=1
  ·grind
  ·rw[if_neg u]at h;rw[dM u]
   split at h
   ·exact keyS l (λ_ h=>h) h
   ·rcases h with h|⟨_,h,A⟩
    ·exact key l (λ_ h=>h) h
    ·exact⟨iy h,ix A⟩
theorem rj:∀{l:IO}{b p q:Nat},jy l b p q->(b<p∧p<=b+(aV l).length)∧b<q∧q<=b+(aV l).length
 | [],b,p,q,h=>h.elim
 |x::xs,b,p,q,h=>by
  rw[jy]at h;rw[aV,aew]
  rcases h with h|h|⟨h,u⟩
  ·have:=fN x h;omega
  ·have:=rj h;omega
  ·have:=iH x h;have:=ix (um u);omega
theorem ri:∀{l:IO}{b p q:Nat},jV l b p q->(b<p∧p<=b+(aV l).length)∧b<q∧q<=b+(aV l).length
 | [],b,p,q,h=>h.elim
 |x::xs,b,p,q,h=>by
  rw[jV]at h;rw[aV,aew]
  rcases h with h|h
  ·have:=fN x h;omega
  ·have:=ri h;omega
def bS(F:Nat->Nat->Prop)(g:Nat->ByteArray):Nat->B0->Nat->Prop
 |p,[],q=>p=q
 |p,a::w,q=>∃r,F p r∧g r=a∧bS F g r w q
theorem bS.imp{F G:Nat->Nat->Prop}{g:Nat->ByteArray}(h:∀p q,F p q->G p q):∀{w:B0}{p q:Nat},bS F g p w q->bS G g p w q
 | [],_,_,u=>u
 |_::_,_,_,⟨r,O,H,A⟩=>⟨r,h _ _ O,H,A.imp h⟩
theorem bS.app{F:Nat->Nat->Prop}{g:Nat->ByteArray}:∀{u v:B0}{p q:Nat},bS F g p (u++v) q ↔ ∃r,bS F g p u r∧bS F g r v q
 | [],v,p,q=>⟨λh=>⟨p,rfl,h⟩,λ⟨_,h,k⟩=>by cases h;exact k⟩
 |a::u,v,p,q=>by
  constructor
  ·rintro⟨r,U,O,V⟩;obtain⟨s,H,A⟩:=bS.app.1 V;exact⟨s,⟨r,U,O,H⟩,A⟩
  ·rintro⟨s,⟨r,U,O,H⟩,A⟩;exact⟨r,U,O,bS.app.2 ⟨s,H,A⟩⟩
def dy(I:Nat->Prop)(F:Nat->Nat->Prop)(T:Nat->Prop)(g:Nat->ByteArray):B0->Prop
 | []=>False
 |a::w=>∃p q,I p∧g p=a∧bS F g p w q∧T q
theorem bS.split{F G:Nat->Nat->Prop}{I T:Nat->Prop}{g:Nat->ByteArray}(O:∀p q,G p q->F p q∨(T p∧I q)):∀{w:B0}{p q:Nat},bS G g p w q ->
  bS F g p w q∨∃u a v r s,w=u++a::v∧bS F g p u r∧T r∧I s∧g s=a∧bS G g s v q
 | [],_,_,h=> .inl h
 |a::w,p,q,⟨r,h1,H,U⟩=>by
  rcases O p r h1 with h|⟨h,k⟩
  ·rcases bS.split O U with A|⟨u,b,v,V,s,rfl,A,h5,h6,Y,W⟩
   ·exact .inl ⟨r,h,H,A⟩
   ·exact .inr ⟨a::u,b,v,V,s,rfl,⟨r,h,H,A⟩,h5,h6,Y,W⟩
  ·exact .inr ⟨[],a,w,p,r,rfl,rfl,h,k,H,U⟩
theorem bS.stay{F G:Nat->Nat->Prop}{S:Nat->Prop}{g:Nat->ByteArray}(A:∀p q,S p->G p q->F p q∧S q):∀{w:B0}{p q:Nat},S p->bS G g p w q->bS F g p w q∧S q
 | [],_,_,u,h=>by cases h;exact⟨rfl,u⟩
 |a::w,p,q,u,⟨r,h1,Y,W⟩=>by
  obtain⟨V,U⟩:=A p r u h1;obtain⟨O,H⟩:=bS.stay A U W;exact⟨⟨r,V,Y,O⟩,H⟩
def qR(ls:B0)(b:Nat)(g:Nat->ByteArray):Prop:=∀(i:Nat)s,ls[i]?=some s->g (b+1+i)=s
theorem qR.left{l m:B0}{b:Nat}{g:Nat->ByteArray}(h:qR (l++m) b g):qR l b g:=λi s hi=>h i s (by grind)
theorem qR.right{l m:B0}{b:Nat}{g:Nat->ByteArray}(h:qR (l++m) b g):qR m (b+l.length) g:=λi s hi=>by
 have:=h (l.length+i) s (by grind)
 grind
theorem bS.Rh{F G:Nat->Nat->Prop}{I T S:Nat->Prop}{g:Nat->ByteArray}(V:∀p q,S p->G p q->(F p q∧S q)∨(T p∧I q)):∀{w:B0}{p q:Nat},S p->bS G g p w q ->
  (bS F g p w q∧S q)∨∃u a v r s,w=u++a::v∧bS F g p u r∧T r∧I s∧g s=a∧bS G g s v q
 | [],_,_,A,h=> .inl ⟨h,by cases h;exact A⟩
 |a::w,p,q,A,⟨r,h1,U,W⟩=>by
  rcases V p r A h1 with⟨h,k⟩|⟨h,k⟩
  ·rcases bS.Rh V k W with⟨O,H⟩|⟨u,b,v,Y,s,rfl,O,H,h6,h7,h8⟩
   ·exact .inl ⟨⟨r,h,U,O⟩,H⟩
   ·exact .inr ⟨a::u,b,v,Y,s,rfl,⟨r,h,U,O⟩,H,h6,h7,h8⟩
  ·exact .inr ⟨[],a,w,p,r,rfl,rfl,h,k,U,W⟩
theorem Qs{x:Ex}{xs:IO}{b:Nat}{g:Nat->ByteArray}{w:B0}(hw:w≠[]) :
  dy (jz (x::xs) b) (jy (x::xs) b) (lz (x::xs) b) g w ↔
   (dy (mq x b) (kL x b) (lj x b) g w∧dz xs=true)∨(aS x=true∧dy (jz xs (b+(aH x).length)) (jy xs (b+(aH x).length)) (lz xs (b+(aH x).length)) g w) ∨
   ∃u v,w=u++v∧dy (mq x b) (kL x b) (lj x b) g u∧dy (jz xs (b+(aH x).length)) (jy xs (b+(aH x).length)) (lz xs (b+(aH x).length)) g v:=by
 obtain⟨a,w,rfl⟩:=afs hw;generalize V:b+(aH x).length=H
 have eS:∀p q,jy (x::xs) b p q↔kL x b p q∨jy xs H p q∨(lj x b p∧jz xs H q):=λp q=>by rw[jy,V]
 have eL:∀p,lz (x::xs) b p↔(dz xs=true∧lj x b p)∨lz xs H p:=λp=>by rw[lz,V]
 have eF:∀p,jz (x::xs) b p↔mq x b p∨(aS x=true∧jz xs H p):=λp=>by rw[jz,V]
 have inX:∀{p},mq x b p->p<=H:=λh=>by have:=jD x h;omega
 have inXs:∀{p},jz xs H p->H<p:=λh=>by have:=ix (um h);omega
 have stayR:∀{w p q},H<p->bS (jy (x::xs) b) g p w q->bS (jy xs H) g p w q∧H<q:=λA h=>
  bS.stay (S:=λp=>H<p) (λp q A h=>by
   rcases(eS p q).1 h with h|h|⟨h,_⟩
   ·have:=fN x h;omega
   ·exact⟨h,by have:=rj h;omega⟩
   ·have:=iH x h;omega) A h
 have endR:∀{q},H<q->lz (x::xs) b q->lz xs H q:=λO h=>by
  rcases(eL _).1 h with⟨_,h⟩|h
  ·have:=iH x h;omega
  ·exact h
 constructor
 ·rintro⟨p,q,A,U,Y,O⟩
  rcases(eF p).1 A with A|⟨he,A⟩
  ·rcases bS.Rh (F:=kL x b) (I:=jz xs H) (T:=lj x b) (S:=λp=>p<=H) (λp q hs h=>by
    rcases(eS p q).1 h with h|h|h
    ·exact .inl ⟨h,by have:=fN x h;omega⟩
    ·have:=rj h;omega
    grind) (inX A) Y with⟨W,h2⟩|⟨u,c,v,r,s,rfl,W,h2,h3,h4,h5⟩
   ·left
    rcases(eL q).1 O with⟨h3,h4⟩|h
    ·exact⟨⟨p,q,A,U,W,h4⟩,h3⟩
    ·have:=iy (BX h);omega
   ·right;right;obtain⟨h6,h7⟩:=stayR (inXs h3) h5;exact⟨a::u,c::v,rfl,⟨p,r,A,U,W,h2⟩,s,q,h3,h4,h6,endR h7 O⟩
  ·obtain⟨W,h2⟩:=stayR (inXs A) Y;exact .inr (.inl ⟨he,p,q,A,U,W,endR h2 O⟩)
 ·rintro(⟨⟨p,q,A,U,Y,O⟩,he⟩|⟨he,p,q,A,U,Y,O⟩|⟨u,v,e,hu,hv⟩)
  ·exact⟨p,q,(eF p).2 (.inl A),U,Y.imp (λp q h=>(eS p q).2 (.inl h)),(eL q).2 (.inl ⟨he,O⟩)⟩
  ·exact⟨p,q,(eF p).2 (.inr ⟨he,A⟩),U,Y.imp (λp q h=>(eS p q).2 (.inr (.inl h))),(eL q).2 (.inr O)⟩
  ·cases u with
   |nil=>exact hu.elim
   |cons a' u=>
    obtain⟨rfl,rfl⟩:a=a'∧w=u++v:=by simpa using e
    cases v with
    |nil=>exact hv.elim
    |cons c v=>
     obtain⟨p,r,W,h2,h3,h4⟩:=hu;obtain⟨s,q,k1,k2,k3,k4⟩:=hv;refine⟨p,q,(eF p).2 (.inl W),h2,bS.app.2 ⟨r,h3.imp (λp q h=>(eS p q).2 (.inl h)),s,(eS r s).2 (.inr (.inr ⟨h4,k1⟩)),k2,k3.imp (λp q h=>(eS p q).2 (.inr (.inl h)))⟩,(eL q).2 (.inr k4)⟩
theorem Qr{x:Ex}{xs:IO}{b:Nat}{g:Nat->ByteArray}{w:B0} :
  dy (iY (x::xs) b) (jV (x::xs) b) (iZ (x::xs) b) g w ↔
   dy (mq x b) (kL x b) (lj x b) g w∨dy (iY xs (b+(aH x).length)) (jV xs (b+(aH x).length)) (iZ xs (b+(aH x).length)) g w:=by
 cases w with
 |nil=>simp[dy]
 |cons a w=>
  generalize H:b+(aH x).length=V
  have eS:∀p q,jV (x::xs) b p q↔kL x b p q∨jV xs V p q:=λp q=>by rw[jV,H]
  have eL:∀p,iZ (x::xs) b p↔lj x b p∨iZ xs V p:=λp=>by rw[iZ,H]
  have eF:∀p,iY (x::xs) b p↔mq x b p∨iY xs V p:=λp=>by rw[iY,H]
  constructor
  ·rintro⟨p,q,A,O,U,u⟩
   rcases(eF p).1 A with A|A
   ·obtain⟨W,h2⟩:=bS.stay (F:=kL x b) (S:=λp=>p<=V) (λp q Y h=>by
     rcases(eS p q).1 h with h|h
     ·exact⟨h,by have:=fN x h;omega⟩
     ·have:=ri h;omega) (by have:=jD x A;omega) U
    rcases(eL q).1 u with u|u
    ·exact .inl ⟨p,q,A,O,W,u⟩
    ·have:=iy u;omega
   ·obtain⟨W,h2⟩:=bS.stay (F:=jV xs V) (S:=λp=>V<p) (λp q Y h=>by
     rcases(eS p q).1 h with h|h
     ·have:=fN x h;omega
     ·exact⟨h,by have:=ri h;omega⟩) (by have:=ix A;omega) U
    rcases(eL q).1 u with u|u
    ·have:=iH x u;omega
    ·exact .inr ⟨p,q,A,O,W,u⟩
  ·rintro(⟨p,q,A,O,U,u⟩|⟨p,q,A,O,U,u⟩)
   ·exact⟨p,q,(eF p).2 (.inl A),O,U.imp (λp q h=>(eS p q).2 (.inl h)),(eL q).2 (.inl u)⟩
   ·exact⟨p,q,(eF p).2 (.inr A),O,U.imp (λp q h=>(eS p q).2 (.inr h)),(eL q).2 (.inr u)⟩
theorem MP{I T:Nat->Prop}{F:Nat->Nat->Prop}{g:Nat->ByteArray}{w:B0}(hw:w≠[]) :
  dy I (λp q=>F p q∨(T p∧I q)) T g w↔dU (dy I F T g) w:=by
 constructor
 ·generalize hn:w.length=n
  induction n using Nat.strongRecOn generalizing w with
  |ind n ih=>
   intro h
   cases w with
   |nil=>exact h.elim
   |cons a w=>
    obtain⟨p,q,H,O,W,A⟩:=h
    rcases bS.split (F:=F) (I:=I) (T:=T) (λ_ _ h=>h) W with V|⟨u,c,v,r,s,rfl,V,h2,h3,h4,h5⟩
    ·exact .one ⟨p,q,H,O,V,A⟩
    ·have:=ih (c::v).length (by grind) (w:=c::v) zk rfl ⟨s,q,h3,h4,h5,A⟩
     rw[show a::(u++c::v)=(a::u)++(c::v)from rfl];exact .cons _ _ zk ⟨p,r,H,O,V,h2⟩ this
 ·intro h
  have key:w=[]∨dy I (λp q=>F p q∨(T p∧I q)) T g w:=by
   clear hw
   induction h with
   |nil=>grind
   |cons u v hu V _ ih=>
    right
    cases u with
    |nil=>grind
    |cons a u=>
     obtain⟨p,q,H,O,W,A⟩:=V;have U:=W.imp (G:=λp q=>F p q∨(T p∧I q)) (λp q h=> .inl h)
     rcases ih with rfl|ih
     ·rw[List.append_nil];exact⟨p,q,H,O,U,A⟩
     ·cases v with
      |nil=>exact ih.elim
      |cons c v=>
       obtain⟨s,t,k1,k2,k3,Y⟩:=ih;exact⟨p,t,H,O,bS.app.2 ⟨q,U,s,.inr ⟨A,k1⟩,k2,k3⟩,Y⟩
  grind
theorem glu{x:Ex}(Y:Fit x):∀{b:Nat}{g:Nat->ByteArray}{w:B0},qR (aH x) b g->w≠[]->(Lg x w↔dy (mq x b) (kL x b) (lj x b) g w):=by
 induction Y with
 |lab s=>
  intro b g w hl H
  have hg:g (b+1)=s:=by have:=hl 0 s (by simp[aH]);omega
  cases w with
  |nil=>grind
  |cons a w=>
   simp only[Lg,if_true,dy,mq,lj]
   constructor
   ·intro h;simp only[List.cons.injEq]at h;obtain⟨rfl,rfl⟩:=h;exact⟨b+1,b+1,rfl,hg,rfl,rfl⟩
   ·rintro⟨p,q,rfl,V,U,O⟩
    cases w with
    |nil=>grind
    |cons c w=>obtain⟨r,h4,_⟩:=U;grind[kL]
 |many k s l hk hl hf ih=>
  intro b g w A H
  have V:k≠1:=zd
  rw[dM V]at A
  rcases hk with rfl|rfl
  ·have key:∀(m:IO),(∀x∈m,x∈l)->∀{b:Nat}{w:B0},qR (aV m) b g->w≠[]->(dO m w↔dy (jz m b) (jy m b) (lz m b) g w):=by
    intro m
    induction m with
    |nil=>
     intro _ b w _ H;obtain⟨a,w,rfl⟩:=afs H;simp[dO,dy,jz]
    |cons x xs ihm=>
     intro hm b w A H;rw[aV]at A;have Y:=hm x afr;have hxs:∀y∈xs,y∈l:=λy hy=>hm y (ae7 _ hy);have eE:=iL (hf x Y)
     have eA:dz xs=true↔dO xs []:=by
      grind[nM,List.all_eq_true,qe,iL]
     rw[Qs H,dO,eE,eA];have I1:=λ{w:B0}(H:w≠[])=>ih x Y (b:=b) (g:=g) (w:=w) A.left H;have I2:=λ{w:B0}(H:w≠[])=>ihm hxs (b:=b+(aH x).length) (w:=w) A.right H
     constructor
     ·rintro⟨u,v,rfl,U,O⟩
      by_cases W:u=[]
      ·grind
      grind
     ·rintro(⟨U,O⟩|⟨U,O⟩|⟨u,v,rfl,U,O⟩)
      ·grind
      ·grind
      ·refine⟨u,v,rfl,(I1 (λe=>?_)).2 U,(I2 (λe=>?_)).2 O⟩
       ·subst e;exact U
       ·subst e;exact O
   simp only[Lg,mq,lj,Int.reduceEq,if_false,if_true];rw[key l (λ_ h=>h) A H]
   have:∀{F G:Nat->Nat->Prop}{I T:Nat->Prop}{w},(∀p q,F p q↔G p q)->(dy I F T g w↔dy I G T g w):=λ{F G I T w}h=>by
    have:F=G:=funext λp=>funext λq=>propext (h p q)
    rw[this]
   grind[kL]
  ·have key:∀(m:IO),(∀x∈m,x∈l)->∀{b:Nat}{w:B0},qR (aV m) b g->w≠[]->(jW m w↔dy (iY m b) (jV m b) (iZ m b) g w):=by
    intro m
    induction m with
    |nil=>
     intro _ b w _ H;obtain⟨a,w,rfl⟩:=afs H;simp[jW,dy,iY]
    |cons x xs ihm=>
     intro hm b w A H;rw[aV]at A;rw[Qr,jW,ih x (hm x afr) A.left H,ihm (λy hy=>hm y (ae7 _ hy)) A.right H]
   simp only[Lg,mq,lj,Int.reduceEq,if_false,if_true];rw[key l (λ_ h=>h) A H]
   have:∀{F G:Nat->Nat->Prop}{I T:Nat->Prop}{w},(∀p q,F p q↔G p q)->(dy I F T g w↔dy I G T g w):=λ{F G I T w}h=>by
    have:F=G:=funext λp=>funext λq=>propext (h p q)
    rw[this]
   grind[kL]
 |one k s x hk Y ih=>
  intro b g w A H
  have V:k≠1:=zd
  have U:k≠2:=zd
  rw[dM V,aV,aV,List.append_nil]at A;have I:=λ{w:B0}(H:w≠[])=>ih (b:=b) (g:=g) (w:=w) A H
  have eF:mq (.mk k s [x]) b=mq x b:=funext λp=>by grind[mq,iY]
  have eL:lj (.mk k s [x]) b=lj x b:=funext λp=>by grind[lj,iZ]
  have star:∀{w:B0},w≠[]->(dU (xv [x]) w↔dy (mq x b) (λp q=>kL x b p q∨(lj x b p∧mq x b q)) (lj x b) g w):=λ{w}H=>by
   rw[MP H]
   constructor
   ·intro h;clear H
    induction h with
    |nil=>exact .nil
    |cons u v W V _ ih=>exact .cons u v W ((I W).1 V) ih
   ·intro h;clear H
    induction h with
    |nil=>exact .nil
    |cons u v W V _ ih=>exact .cons u v W ((I W).2 V) ih
  rw[eF,eL]
  rcases hk with rfl|rfl|rfl
  ·have eFo:kL (.mk 4 s [x]) b=(λp q=>kL x b p q∨(lj x b p∧mq x b q)):=funext λp=>funext λq=>by simp[kL,jV,iZ,iY]
   grind[Lg]
  ·have eFo:kL (.mk 5 s [x]) b=(λp q=>kL x b p q∨(lj x b p∧mq x b q)):=funext λp=>funext λq=>by simp[kL,jV,iZ,iY]
   rw[eFo, <- star H];simp only[Lg,Int.reduceEq,if_false,if_true]
   constructor
   ·rintro⟨u,v,rfl,O,h4⟩;exact(dU.one O).append h4
   ·intro h
    rcases h.inv with e|⟨u,v,rfl,W,O,h4⟩
    ·grind
    grind
  ·have eFo:kL (.mk 6 s [x]) b=kL x b:=funext λp=>funext λq=>by simp[kL,jV]
   grind[Lg,xv]
end
section
open Go.RowKit Go.Shelf
theorem Dz{F:Fence}(q:F.depth=none)(k:Nat):F.room k:=λd h=>by rw[q]at h;cases h
theorem vj{F:Fence}(u:F.depth=none){m q:Nat}{P:Program}{l:Nat}{f:FuncId}{tmps:Array Value}{assign body:Code}{w:World}{R:Ending->World->Prop}
  (h:RoundIn F m P l f tmps assign body w R):RoundIn F q P l f tmps assign body w R:=⟨h.1,λc cs _=>h.2 c cs (Dz u _)⟩
theorem vD{F:Fence}(A:F.depth=none){m:Nat}(q:Nat){P:Program}{l:Nat}{args:Array Value}{W:World}{R:Ending->World->Prop}(h:YieldAt F m P l args W R):YieldAt F q P l args W R:=by
 obtain⟨fn,tmps,assign,body,u,H⟩:=h;exact⟨fn,tmps,assign,body,u,vj A H⟩
def A0(lo hi:Nat)(e:TypeId)(k:Nat):Obj->Prop
 | .cells _ T _=>k<lo∨(hi<=k∧T≠e)
 |o=>o.isWalk=true∧(k<lo∨hi<=k)
structure Kept(lo hi:Nat)(e:TypeId)(W W':World):Prop where
 size:W.heap.size<=W'.heap.size
 same:∀(k:Nat)(o:Obj),W.heap[k]?=some o->A0 lo hi e k o->W'.heap[k]?=some o
theorem Kept.refl(lo hi:Nat)(e:TypeId)(W:World):Kept lo hi e W W:=⟨aen _,λ_ _ h _=>h⟩
theorem Kept.trans{lo hi:Nat}{e:TypeId}{A B C:World}(h:Kept lo hi e A B)(k:Kept lo hi e B C):Kept lo hi e A C:=
 ⟨Nat.le_trans h.size k.size,λi o u q=>k.same i o (h.same i o u q) q⟩
theorem Kept.below{lo hi:Nat}{e:TypeId}{W u:World}(h:Below W.heap.size W u):Kept lo hi e W u:=
 ⟨h.size,λk _ q _=>(h.block k (aer.1 q).1).trans q⟩
theorem Kept.alloc{lo hi:Nat}{e:TypeId}(W:World)(o:Obj):Kept lo hi e W (W.alloc o):= .below ((Below.refl _ _).alloc (aen _) o)
theorem Mk{lo hi:Nat}{e:TypeId}{k:Nat}{o:Obj}(h:A0 lo hi e k o):k<lo∨hi<=k:=by
 cases o<;>simp only[A0]at h<;>omega
theorem Kept.setCell{lo hi:Nat}{e:TypeId}(W:World){b o:Nat}(H:lo<=b)(A:b<hi)(v:Value):Kept lo hi e W (W.setCell ⟨b,o,none⟩ v):=
 ⟨by show _<=(W.heap.modify _ _).size;rw[Array.size_modify];exact aen _,λk _ q u=>(Below.heap_setCell W _ v k (λe=>by have O:k=b:=e;have:=Mk u;omega)).trans q⟩
theorem Kept.putObj{lo hi:Nat}{e:TypeId}(W:World)(l:Nat)(o o':Obj)(h:W.heap[l]?=some o)(H:o.isCells=false)(u:o.isWalk=false):Kept lo hi e W (W.putObj l o'):=
 ⟨zk,λk o'' q A=>(World.putObj_heap_other (λe=>by
  subst e;rw[h]at q;cases q
  cases o<;>simp_all[A0,Obj.isCells])).trans q⟩
theorem Kept.grown{lo hi:Nat}{e:TypeId}{W A:World}{row:Option Nat}(u:W.grownBy A row)(h:∀r o,row=some r->W.heap[r]?=some o-> ¬A0 lo hi e r o):Kept lo hi e W A:=
 ⟨u.size,λk o q H=>(u.block k (aer.1 q).1 (λe=>h k o e.symm q H)).trans q⟩
theorem Kept.cells{lo hi:Nat}{e:TypeId}{w0 W H:World}(h:Kept lo hi e W H)(U:Cells w0 W)(O:w0.heap.size<=lo):Cells w0 H:=λb o v A=>by
 have V:=nW A;have u:=U b o v A;unfold World.cell? at u⊢
 cases q:W.heap[b]? with
 |none=>simp[q]at u
 |some ob=>
  cases ob with
  |cells C T fz=>
   have:=h.same b _ q (.inl zd)
   simp only[this];simpa [q]using u
  |_=>simp[q]at u
theorem Kept.box{lo hi:Nat}{e:TypeId}{W q:World}(h:Kept lo hi e W q){k:Nat}{C:Array Value}{T:TypeId}{fz:Nat×Nat}(A:hi<=k)(H:T≠e)(u:W.heap[k]?=some (.cells C T fz)):q.heap[k]?=some (.cells C T fz):=
 h.same k _ u (.inr ⟨A,H⟩)
def YOk{α:Type}(J Jx:List α->World->Prop)(Kp:World->World->Prop)(pre:List α)(x:α)(W:World)(e:Ending)(W':World):Prop:=
 (e=.returned (.bool true)∧J (pre++[x]) W'∧Kp W W')∨(e=.returned (.bool false)∧Jx (pre++[x]) W')
theorem aC{w:World}{k:Nat}{C:Array Value}{T:TypeId}{fz:Nat×Nat}(h:w.heap[k]?=some (.cells C T fz))(o:Nat):w.cell? ⟨k,o,none⟩=C[o]? :=by simp[World.cell?,h]
theorem dq{w:World}{k:Nat}{C:Array Value}{T:TypeId}(h:w.heap[k]?=some (.cells C T (0,0)))(o:Nat):w.frozen? ⟨k,o,none⟩=false:=by simp[World.frozen?,h]
theorem l9{w:World}{k:Nat}{ob:Obj}(h:w.heap[k]?=some ob)(o:Obj):(w.alloc o).heap[k]?=some ob:=(Below.heap_alloc w o k (aer.1 h).1).trans h
theorem fG{w:World}{k:Nat}{ob:Obj}(h:w.heap[k]?=some ob){b o:Nat}(v:Value)(q:k≠b):(w.setCell ⟨b,o,none⟩ v).heap[k]?=some ob:=(Below.heap_setCell w _ v k q).trans h
theorem ln{w:World}{k:Nat}{v:Value}{T:TypeId}{fz:Nat×Nat}(h:w.heap[k]?=some (.cells #[v] T fz))(u:Value):(w.setCell ⟨k,0,none⟩ u).heap[k]?=some (.cells #[u] T fz):=by
 simp[World.setCell,Array.getElem?_modify,h]
theorem fF{w:World}{k D:Nat}{ob:Obj}(h:w.heap[k]?=some ob)(o:Obj)(q:k≠D):(w.putObj D o).heap[k]?=some ob:=(World.putObj_heap_other q).trans h
theorem oY{B:Nat}{W u:World}(h:Below W.heap.size W u):KeepsFrom B W u:=⟨h.size,λk _ _ q _=>(h.block k (aer.1 q).1).trans q⟩
theorem mf{β:Type}(U B:Nat)(C:β->Array Value)(T:TypeId):OwnFrom U (λ(s:β)W=>W.heap[B]?=some (.cells (C s) T (0,0))):=λs X Y row q H A=>by
 refine(H.block B (aer.1 q).1 (λe=>?_)).trans q;obtain⟨_,o,u,O⟩:=A B e.symm;rw[q]at u;cases u;cases O
def handed{α:Type}(encs:α->Array Value)(ps:Array Tmp)(a:Act)(x:α):Act:={tmps:=(ps.toList.zip (encs x).toList).foldl (λt pv=>t.setIfInBounds pv.1 pv.2) a.tmps,defers:=[]}
theorem Mf{α:Type}(encs:α->Array Value)(ps:Array Tmp)(a:Act)(x:α):handed encs ps a x={tmps:=(ps.zip (encs x)).foldl (λt(p,v)=>t.setIfInBounds p v) a.tmps,defers:=[]}:=by
 rw[handed, <- Array.toList_zip,Array.foldl_toList]
def Act.sa(a:Act)(d:Nat)(v:Value):Act:={a with tmps:=a.tmps.setIfInBounds d v}
section
variable {P:Program} {α:Type} {g:Operand} {ps:Array Tmp} {assign body:Code} {Q:Exit->Act->World->Prop} {a:Act} {w:World}
theorem QQ{lo hi gf:Nat}{et:TypeId}{lb:Array Value}(hg:a.eval g=.func (.func gf) #[] lb)(eg:∀args w,(callFunc gf args).run P w=.ok (.enter gf args) w)
  {encs:α->Array Value}{S Sp:List α->Prop}{N:Nat}{w0:World}(u:SeqStopsK Fence.wide 8 P gf lb encs (Kept lo hi et) S Sp N w0)
  (V:Below w0.heap.size w0 w)(O:∀x,(encs x).size=ps.size)
  (I:List α->World->Prop)(Ix:Code->List α->World->Prop)(hI:OwnFrom w.heap.size I)(hIx:∀c,OwnFrom w.heap.size (Ix c))(h0:I [] w)(d:Nat)(C:α->Array Value)(T:TypeId)
  (A:∀pre W,I pre W->w.heap.size<=W.heap.size)
  (hassign:∀(l:Nat)(x:α)(W:World)(K:Act->World->Prop),K (Act.sa (handed encs ps a x) d (.pointer (some ⟨W.heap.size,0,none⟩))) (W.alloc (.cells (C x) T)) ->
   assign.wpIn (Fence.wide.inRound l) 7 P (Exit.then K (λ_ _ _=>False)) (handed encs ps a x) W)
  (hbody:∀(l:Nat)(pre:List α)(x:α)(B:Nat)(W:World),w.heap.size<=l->(∃r,W.heap[l]?=some (.loop r))->I pre W->w.heap.size<=B->W.heap[B]?=some (.cells (C x) T (0,0))->pre.length<N ->
   body.wpIn (Fence.wide.inRound l) 7 P (ownPostG w.heap.size (Kept lo hi et) I Ix (pre++[x]) W) (Act.sa (handed encs ps a x) d (.pointer (some ⟨B,0,none⟩))) W)
  (hdone:∀(D:Nat)(xs:List α)(W:World),w.heap.size<=D->S xs->I xs W->W.heap[D]?=some (.deferred (some []))->Q .normal {a with defers:={target:= .collected D,args:= #[]} ::a.defers} W)
  (hstop:∀(D:Nat)(c:Code)(pre:List α)(W:World),w.heap.size<=D->Sp pre->Ix c pre W->W.heap[D]?=some (.deferred (some []))->c.wpIn Fence.wide 9 P Q {a with defers:={target:= .collected D,args:= #[]} ::a.defers} W) :
  (Code.rangeFunc g ps assign body).wpIn Fence.wide 9 P Q a w:=
 wpIn_rangeFunc_ownH (F:=Fence.wide) (n:=9) rfl zd hg trivial eg u Kept.trans (λW l o o' _ h hc hw=>Kept.putObj W l o o' h hc hw) V O I Ix hI hIx h0
  (λx a' W=>∃B,w.heap.size<=B∧a'=Act.sa (handed encs ps a x) d (.pointer (some ⟨B,0,none⟩))∧W.heap[B]?=some (.cells (C x) T (0,0)))
  (λx a' s X Y row hs U H=>by
   obtain⟨B,h1,h2,h3⟩:=hs
   exact⟨B,h1,h2,mf (β:=Unit) w.heap.size B (λ_=>C x) T () X Y row h3 U H⟩)
  (λl pre x W K q hK=>Mf encs ps a x ▸ hassign l x W K (hK _ _ (((KeepsOthers.alloc W _).from _)) (Kept.alloc W _) (hI.alloc _ q) ⟨W.heap.size,A _ _ q,rfl,gT W _⟩))
  (λl pre x a' W hl H q ha hn=>by
   obtain⟨B,h1,rfl,h3⟩:=ha
   exact hbody l pre x B W hl H q h1 h3 hn) hdone hstop
end
theorem zW{W O:World}{lo hi B size k:Nat}{e:TypeId}{v:Value}{xs:IR}{tmp:Obj}(q:W.ownsRow lo e size v k xs)(hgrow:(W.alloc tmp).grownBy O v.ownBlock)(A:lo<=B)(hB:B<hi)(Y:Value) :
  Kept lo hi e W (O.setCell ⟨B,0,none⟩ Y):=by
 refine((Kept.alloc W tmp).trans (Kept.grown hgrow λr o U V u=>?_)).trans (Kept.setCell _ A hB _)
 rcases(q.alloc tmp).2 with⟨rfl,_⟩|⟨g,cap,cur,rfl,hg,H,_⟩
 ·simp[Value.ownBlock]at U
 ·obtain rfl:g=r:=by simpa [Value.ownBlock]using U
  rw[H]at V;cases V;simp only[A0]at u
  rcases u with u|u
  ·omega
  ·exact u.2 rfl
theorem nE{w W:World}(h:Below w.heap.size w W){D:Nat}{o:Obj}(q:w.heap.size<=D)(o':Obj)(_:W.heap[D]?=some o):Below w.heap.size w (W.putObj D o'):=
 h.grown (grownBy_putObj' W D o') (h.size) (λk e=>by cases e;exact q)
end
theorem rT(c:Int)(w:World):Calls prog 126 #[.int .i32 c] w λe w'=>e=.returned (.bool (o9 c))∧w=w':=by
 unfold o9
 by_cases q:97<=c
 ·have d1:decide (97<=c)=true:=by simpa using q
  rw[d1,afu]
  go_enter func126,ntmps126
  go_wp2_with fail
  go_ret
  exact⟨rfl,rfl⟩
 ·have d1:decide (97<=c)=false:=by simpa using q
  rw[d1,Bool.false_and]
  go_enter func126,ntmps126
  go_wp2_with fail
  go_ret
  exact⟨rfl,rfl⟩
theorem Ge(c:Int):(o9 c=true∧ib c=true)∨(o9 c=false∧(c !=95)=false∧ib c=true)∨(o9 c=false∧(c !=95)=true∧c<48∧ib c=false) ∨
  (o9 c=false∧(c !=95)=true∧48<=c∧57<c∧ib c=false)∨(o9 c=false∧(c !=95)=true∧48<=c∧c<=57∧ib c=true):=by
 unfold ib
 cases h:o9 c
 ·by_cases H:c=95
  ·subst H;exact .inr (.inl ⟨rfl,rfl,rfl⟩)
  ·have hn:(c==95)=false:=by simpa using H
   have u:(c !=95)=true:=by simpa using H
   rw[hn,u]
   by_cases q:48<=c
   ·by_cases A:c<=57
    ·exact .inr (.inr (.inr (.inr ⟨rfl,rfl,q,A,by simp[q,A]⟩)))
    ·exact .inr (.inr (.inr (.inl ⟨rfl,rfl,q,zd,by simp[A]⟩)))
   ·exact .inr (.inr (.inl ⟨rfl,rfl,zd,by simp[q]⟩))
 ·exact .inl ⟨rfl,zk⟩
theorem vX(s:ByteArray)(w:World)(hs:s.size<=maxLen):Calls prog 86 #[.string s] w (Ha w (.bool (fU s))):=by
 unfold maxLen at hs;have H:∀pos,Below w.heap.size w (w.iter s pos):=λpos=>(Below.refl _ _).alloc (aen _) _;have HI:=Lib.hid H;clear H
 go_enter func86,ntmps86
 go_wp2_with fail
 go_loopw [2] (λr wr=>r=.bool false∧∃pos:Nat,wr=w.iter s pos∧pos<=s.size∧∀j(h:j<pos)(Y:j<s.size),ib s[j].toNat=true) (λ_ wr=>s.size-wr.iterPos w.heap.size)
 case atStart=>exact⟨rfl,0,rfl,Nat.zero_le _,λj h=>zd⟩
 case round=>
  obtain⟨rfl,pos,rfl,hpos,hP⟩:=hrel;have HP:=Lib.hid hP;clear hP
  by_cases q:pos<s.size
  ·by_cases V:(s[pos]'q).toNat<128
   ·have u:∀ty,(Instr.next (.pointer (some ⟨w.heap.size,0,none⟩)) true ty).run prog (w.iter s pos)=_:=λty=>run_next_ascii w s pos ty q V;have HV:=Lib.hid (@Gy s pos q)
    have HS:Hid (∀(hv:ib (s[pos]'q).toNat=true)j(h:j<pos+1)(Y:j<s.size),ib s[j].toNat=true):=λhv j h Y=>by
     by_cases e:j=pos
     ·subst e;exact hv
     ·exact HP.out j zd Y
    have A:=λW=>rT (((s[pos]'q).toNat:Nat):Int) W;generalize hn:(s[pos]'q).toNat=n at u V HV HS A;have HN:=Lib.hid hn;clear hn;have HL:=Lib.hid A;clear A
    rcases Ge (n:Int)with⟨g1,g2⟩|⟨g1,g2,g3⟩|⟨g1,g2,g3,g4⟩|⟨g1,g2,g3,g4,g5⟩|⟨g1,g2,g3,g4,g5⟩
    ·rw[g1]at HL;clear g1;have HG:=Lib.hid g2;clear g2
     go_wp2_with (go_at_call 126;refine(HL.out _).mono ?_;rintro e w' ⟨rfl,rfl⟩)
     go_roundw
     case rel=>exact⟨rfl,pos+1,rfl,zd,HS.out HG.out⟩
     case measure=>simp;omega
    ·rw[g1]at HL;clear g1;have HG:=Lib.hid g3;clear g3
     go_wp2_with (go_at_call 126;refine(HL.out _).mono ?_;rintro e w' ⟨rfl,rfl⟩)
     go_roundw
     case rel=>exact⟨rfl,pos+1,rfl,zd,HS.out HG.out⟩
     case measure=>simp;omega
    ·rw[g1]at HL;clear g1;have HG:=Lib.hid g4;clear g4
     go_wp2_with (go_at_call 126;refine(HL.out _).mono ?_;rintro e w' ⟨rfl,rfl⟩)
     go_ret
     exact cK rfl (HV.out HG.out).symm (HI.out _)
    ·rw[g1]at HL;clear g1;have HG:=Lib.hid g5;clear g5
     go_wp2_with (go_at_call 126;refine(HL.out _).mono ?_;rintro e w' ⟨rfl,rfl⟩)
     go_ret
     exact cK rfl (HV.out HG.out).symm (HI.out _)
    ·rw[g1]at HL;clear g1;have HG:=Lib.hid g5;clear g5
     go_wp2_with (go_at_call 126;refine(HL.out _).mono ?_;rintro e w' ⟨rfl,rfl⟩)
     go_roundw
     case rel=>exact⟨rfl,pos+1,rfl,zd,HS.out HG.out⟩
     case measure=>simp;omega
   ·have u:∀ty,(Instr.next (.pointer (some ⟨w.heap.size,0,none⟩)) true ty).run prog (w.iter s pos)=_:=λty=>run_next_any w s pos ty q;have hd:=(decode_high s pos q zd).1
    have HV:=Lib.hid (Gy q (by
     have hl:o9 (((s[pos]'q).toNat:Nat):Int)=false:=by unfold o9;simp;omega
     unfold ib;rw[hl];simp;omega))
    have A:=λW=>rT (((Utf8.decode s pos).1:Nat):Int) W;generalize(Utf8.decode s pos).1=n at u hd A;generalize(Utf8.decode s pos).2=m at u
    have hl:o9 (n:Int)=false:=by unfold o9;simp;omega
    rw[hl]at A
    have hn:((n:Int) !=95)=true:=ahy
    have HL:=Lib.hid A;clear A hl V
    go_wp2_with (go_at_call 126;refine(HL.out _).mono ?_;rintro e w' ⟨rfl,rfl⟩)
    go_ret
    exact cK rfl HV.out.symm (HI.out _)
  ·have u:∀ty,(Instr.next (.pointer (some ⟨w.heap.size,0,none⟩)) true ty).run prog (w.iter s pos)=_:=λty=>run_next_end w s pos ty q;have HV:=Lib.hid (Ns (s:=s) (λj h=>HP.out j zd h));have he:=lU s
   by_cases O:s.size=0
   ·rw[decide_eq_true O]at he
    have U:Hid ((decide (1<=s.size)&&decide (s.size<=20))=false):=by show _=_;simp[O]
    clear O
    go_wp2_with fail
    go_ret
    exact cK rfl (by rw[HV.out,U.out]) (HI.out _)
   ·rw[decide_eq_false O]at he
    have U:Hid ((decide (1<=s.size)&&decide (s.size<=20))=decide (s.size<=20)):=by show _=_;rw[b0,afu]
    go_wp2_with fail
    go_ret
    exact cK rfl (by rw[HV.out,U.out,decide_eq_decide];omega) (HI.out _)
def CG(xs:B0)(s:ByteArray):Int:=match xs.findIdx? (λx=>fQ s x)with|some k=>k|none=> -1
def hasB(xs:B0)(s:ByteArray):Bool:=xs.any (λx=>fQ s x)
theorem TD{xs:B0}{s:ByteArray}{k:Nat}(u:k<xs.length)(q:fQ s xs[k]=true)(h:∀j(_:j<k)(H:j<xs.length),fQ s xs[j]=false):CG xs s=k:=by
 have:xs.findIdx? (λx=>fQ s x)=some k:=by
  rw[afv];exact⟨u,q,λj A=>by rw[h j A zd];decide⟩
 rw[CG,this]
theorem Mg{xs:B0}{s:ByteArray}(h:∀j(h:j<xs.length),fQ s xs[j]=false):CG xs s = -1:=by
 have:xs.findIdx? (λx=>fQ s x)=none:=by
  rw[afw];intro x hx;obtain⟨j,q,rfl⟩:=List.getElem_of_mem hx;exact h j q
 rw[CG,this]
theorem Pp(xs:B0)(s:ByteArray):decide (0<=CG xs s)=hasB xs s:=by
 unfold CG hasB
 cases h:xs.findIdx? (λx=>fQ s x)with
 |none=>
  rw[afw]at h;simp only[show decide ((0:Int) <= -1)=false by decide];rw[eq_comm,List.any_eq_false]
  exactλx q=>by rw[h x q];decide
 |some k=>
  rw[afv]at h;obtain⟨A,u,_⟩:=h;rw[decide_eq_true zk,eq_comm,List.any_eq_true];exact⟨xs[k],List.getElem_mem _,u⟩
theorem Mh(xs:B0)(v:Value)(s:ByteArray)(w:World)(H:rk w xs v) :
  Calls prog 160 #[v,.string s] w (Lc w (.int .i64 (CG xs s))):=by
 obtain⟨p,c,rfl,V,A⟩:=H.shape;unfold maxLen at A;have H1:=Lib.hid H;clear H
 go_enter func160,ntmps160
 go_wp2_with fail
 go_loop [4,8] (λr i=>r=.int .i64 0∧∃k:Nat,k<=xs.length∧i=.int .i64 k∧∀j(h:j<k)(U:j<xs.length),fQ s xs[j]=false) (λ_ i=>xs.length-(intOf i).toNat)
 case atStart=>exact⟨rfl,0,Nat.zero_le _,rfl,λj h=>zd⟩
 case round=>
  obtain⟨rfl,k,W,rfl,O⟩:=hrel;have HP:=Lib.hid O;clear O
  by_cases q:k<xs.length
  ·obtain⟨Y,o1,rfl,a0⟩:=MZ H1.out q
   cases u:fQ s xs[k]
   ·have HS:=Lib.hid u;unfold fQ at u
    go_wp2_with fail
    go_round
    case rel=>exact⟨rfl,k+1,zd,by go_num,λj h U=>by
     by_cases e:j=k
     ·subst e;exact HS.out
     ·exact HP.out j zd U⟩
    case measure=>simp[intOf];omega
   ·have HS:=Lib.hid u;unfold fQ at u
    go_wp2_with fail
    go_ret
    exact QP rfl (TD q HS.out HP.out).symm
  ·go_wp2_with fail
   go_ret
   exact QP rfl (Mg (λj h=>HP.out j zd h)).symm
theorem Ck(xs:B0)(v:Value)(s:ByteArray)(w:World)(q:rk w xs v) :
  Calls prog 127 #[v,.string s] w (Lc w (.bool (hasB xs s))):=by
 have HC:=Lib.hid (Mh xs v s w q);clear q;rw[<-Pp]
 go_enter func127,ntmps127
 go_wp2_with fail
 refine HC.out.mono ?_;rintro e w' ⟨rfl,rfl⟩
 go_wp2_with fail
 go_ret
 exact⟨rfl,rfl⟩
theorem E2(s:ByteArray)(w:World)(V:s.size<=maxLen):Calls prog 87 #[.string s] w (Ha w (.bool (cB s))):=by
 have HV:=Lib.hid (λW=>vX s W V);have HB:=Lib.hid (λo=>((Below.refl w.heap.size w).alloc (aen _) o))
 have HW:Hid (∀H,Below (w.alloc (.cells (words.map Value.string).toArray 9)).heap.size (w.alloc (.cells (words.map Value.string).toArray 9)) H->Calls prog 127 #[.slice (some ⟨w.heap.size,0,none⟩) 7 7,.string s] H (Lc H (.bool (hasB words s)))):=λH hb=>
  Ck words _ s H (I5 (rd:=Vf) (xs:=words) (sz:=1) ((hb.block _ zk).trans (gT w _)) (λx=>[Value.string x]) (λx _=>rfl) (λx _=>rfl) (by simp[List.flatMap,words]) rfl zs (by unfold maxLen;decide))
 cases g1:fU s
 ·rw[g1]at HV
  have q:cB s=false:=by simp[cB,g1]
  rw[q];clear q;have G1:=Lib.hid g1;clear g1 HW
  go_enter func87,ntmps87
  go_wp2_with fail
  refine(HV.out _).mono ?_;rintro e U ⟨rfl,u⟩
  go_wp2_with fail
  go_ret
  exact cK rfl rfl (cV (HB.out _) u)
 ·rw[g1]at HV;obtain⟨O,_⟩:=zD g1;have hl:=λW=>rT (rJ s) W
  have q:cB s=(o9 (rJ s) && !hasB words s):=by simp[cB,g1,hasB]
  rw[q];clear q
  have A:rJ s=((s[0]'O).toNat:Int):=by simp[rJ,O]
  rw[A]at hl;rw[A];have HL:=Lib.hid hl;clear hl A;have Y:(s[0]'O).toNat<256:=UInt8.toNat_lt _
  cases g2:o9 ((s[0]'O).toNat:Int)
  ·rw[g2]at HL;rw[Bool.false_and];clear g2
   go_enter func87,ntmps87
   go_wp2_with fail
   refine(HV.out _).mono ?_;rintro e U ⟨rfl,u⟩
   go_wp2_with fail
   refine(HL.out _).mono ?_;rintro e w' ⟨rfl,rfl⟩
   go_wp2_with fail
   go_ret
   exact cK rfl rfl (cV (HB.out _) u)
  ·rw[g2]at HL;rw[afu];clear g2
   go_enter func87,ntmps87
   go_wp2_with fail
   refine(HV.out _).mono ?_;rintro e U ⟨rfl,u⟩
   go_wp2_with fail
   refine(HL.out _).mono ?_;rintro e w' ⟨rfl,rfl⟩
   go_wp2_with fail
   refine(HW.out _ u).mono ?_;rintro e w' ⟨rfl,rfl⟩
   go_wp2_with fail
   go_ret
   exact cK rfl rfl (cV (HB.out _) u)
theorem MR(s:ByteArray)(w:World)(O:s.size<=maxLen):Calls prog 161 #[.string s] w (Lc w (.bool (kG s))):=by
 unfold maxLen at O
 go_enter func161,ntmps161
 go_wp2_with fail
 go_loop [2,7] (λr i=>r=.bool false∧∃k:Nat,i=.int .i64 k∧k<=s.size∧∀j(h:j<k)(u:j<s.size),jm s[j].toNat=true) (λ_ i=>s.size-(intOf i).toNat)
 case atStart=>exact⟨rfl,0,rfl,Nat.zero_le _,λj h=>zd⟩
 case round=>
  obtain⟨rfl,k,rfl,W,H⟩:=hrel;have HP:=Lib.hid H;clear H
  by_cases q:k<s.size
  ·have HV:=Lib.hid (@mR s k q)
   have HS:Hid (∀(A:jm (s[k]'q).toNat=true)j(h:j<k+1)(u:j<s.size),jm s[j].toNat=true):=λA j h u=>by
    by_cases e:j=k
    ·subst e;exact A
    ·exact HP.out j zd u
   have U:=tB (s[k]'q).toNat;have V:(s[k]'q).toNat<256:=UInt8.toNat_lt _
   rcases U with⟨g1,g2⟩|⟨g1,g2,g3⟩|⟨g1,g2,g3,g4⟩|⟨g1,g2,g3,g4,g5⟩|⟨g1,g2,g3,g4,g5⟩
   ·have HG:=Lib.hid g2;clear g2
    go_wp2_with fail
    go_ret
    exact zi rfl (HV.out HG.out).symm
   ·have HG:=Lib.hid g3;clear g3
    go_wp2_with fail
    go_ret
    exact zi rfl (HV.out HG.out).symm
   ·have HG:=Lib.hid g4;clear g4
    go_wp2_with fail
    go_ret
    exact zi rfl (HV.out HG.out).symm
   ·have HG:=Lib.hid g5;clear g5
    go_wp2_with fail
    go_ret
    exact zi rfl (HV.out HG.out).symm
   ·have HG:=Lib.hid g5;clear g5
    go_wp2_with fail
    go_round
    case rel=>exact⟨rfl,k+1,by go_num,zd,HS.out HG.out⟩
    case measure=>simp[intOf];omega
  ·go_wp2_with fail
   go_ret
   exact zi rfl (y5 (λj h=>HP.out j zd h)).symm
theorem DP(v:Ef)(w:World)(V:v.text.size<=maxLen):Calls prog 128 #[.agg #[.int .i64 v.kind,.int .i64 v.num,.string v.text]] w (Ha w (.bool (bo v))):=by
 obtain⟨k,n,s⟩:=v;simp only at V;have HP:=Lib.hid (λW=>MR s W V);have HB:=Lib.hid (λo=>((Below.refl w.heap.size w).alloc (aen _) o));have A:=lU s
 cases O:k==1
 ·cases U:k==2
  ·have q:bo ⟨k,n,s⟩=false:=by simp[bo,O,U]
   rw[q];clear q A HP
   go_enter func128,ntmps128
   go_wp2_with fail
   go_ret
   exact cK rfl rfl (HB.out _)
  ·cases u:n==0
   ·have q:bo ⟨k,n,s⟩=false:=by simp[bo,O,U,u]
    rw[q];clear q A HP
    go_enter func128,ntmps128
    go_wp2_with fail
    go_ret
    exact cK rfl rfl (HB.out _)
   ·by_cases H:s.size<=40
    ·have q:bo ⟨k,n,s⟩=kG s:=by simp[bo,O,U,u,H]
     rw[q];clear q A
     go_enter func128,ntmps128
     go_wp2_with fail
     refine(HP.out _).mono ?_;rintro e w' ⟨rfl,rfl⟩
     go_wp2_with fail
     go_ret
     exact cK rfl rfl (HB.out _)
    ·have q:bo ⟨k,n,s⟩=false:=by simp[bo,O,U,u,H]
     rw[q];clear q A HP
     go_enter func128,ntmps128
     go_wp2_with fail
     go_ret
     exact cK rfl rfl (HB.out _)
 ·cases u:pc s
  ·have q:bo ⟨k,n,s⟩=false:=by simp[bo,O,u]
   rw[pc]at u;rw[u]at A;rw[q];clear q HP u
   go_enter func128,ntmps128
   go_wp2_with fail
   go_ret
   exact cK rfl rfl (HB.out _)
  ·by_cases H: -jR<=n
   ·have q:bo ⟨k,n,s⟩=decide (n<=jR):=by simp[bo,O,u,H]
    rw[pc]at u;rw[u]at A;rw[q];clear q HP u;unfold jR at H⊢
    go_enter func128,ntmps128
    go_wp2_with fail
    go_ret
    exact cK rfl rfl (HB.out _)
   ·have q:bo ⟨k,n,s⟩=false:=by simp[bo,O,u,H]
    rw[pc]at u;rw[u]at A;rw[q];clear q HP u;unfold jR at H
    go_enter func128,ntmps128
    go_wp2_with fail
    go_ret
    exact cK rfl rfl (HB.out _)
theorem Qo(k:Int)(s:ByteArray)(p:Option Addr)(n c:Nat)(w:World)(hs:s.size<=maxLen)(hn:n<=maxLen) :
  Calls prog 76 #[.agg #[.int .i64 k,.string s,.slice p n c]] w (Ha w (.bool (bO k s n))):=by
 have HF:=Lib.hid (λW=>E2 s W hs);have HB:=Lib.hid (λo=>((Below.refl w.heap.size w).alloc (aen _) o));unfold maxLen at hs hn;have H:=lU s
 cases O:k==1
 ·cases U:k==2
  ·cases V:k==3
   ·cases Y:k==4
    ·cases h5:k==5
     ·cases h6:k==6
      ·have q:bO k s n=false:=by simp[bO,O,U,V,Y,h5,h6]
       rw[q];clear q H HF
       go_enter func76,ntmps76
       go_wp2_with fail
       go_ret
       exact cK rfl rfl (HB.out _)
      ·skip
       by_cases A:n=1
       ·have h8:((n:Int)==1)=true:=by simp[A]
        cases u:pc s
        ·have q:bO k s n=false:=by simp[bO,O,U,V,Y,h5,h6,A,u]
         rw[pc]at u;rw[u]at H;rw[q];clear q HF u
         go_enter func76,ntmps76
         go_wp2_with fail
         go_ret
         exact cK rfl rfl (HB.out _)
        ·have q:bO k s n=true:=by simp[bO,O,U,V,Y,h5,h6,A,u]
         rw[pc]at u;rw[u]at H;rw[q];clear q HF u
         go_enter func76,ntmps76
         go_wp2_with fail
         go_ret
         exact cK rfl rfl (HB.out _)
       ·have h8:((n:Int)==1)=false:=ahy
        have q:bO k s n=false:=by simp[bO,O,U,V,Y,h5,h6,A]
        rw[q];clear q H HF
        go_enter func76,ntmps76
        go_wp2_with fail
        go_ret
        exact cK rfl rfl (HB.out _)
     ·skip
      by_cases A:n=1
      ·have h8:((n:Int)==1)=true:=by simp[A]
       cases u:pc s
       ·have q:bO k s n=false:=by simp[bO,O,U,V,Y,h5,A,u]
        rw[pc]at u;rw[u]at H;rw[q];clear q HF u
        go_enter func76,ntmps76
        go_wp2_with fail
        go_ret
        exact cK rfl rfl (HB.out _)
       ·have q:bO k s n=true:=by simp[bO,O,U,V,Y,h5,A,u]
        rw[pc]at u;rw[u]at H;rw[q];clear q HF u
        go_enter func76,ntmps76
        go_wp2_with fail
        go_ret
        exact cK rfl rfl (HB.out _)
      ·have h8:((n:Int)==1)=false:=ahy
       have q:bO k s n=false:=by simp[bO,O,U,V,Y,h5,A]
       rw[q];clear q H HF
       go_enter func76,ntmps76
       go_wp2_with fail
       go_ret
       exact cK rfl rfl (HB.out _)
    ·skip
     by_cases A:n=1
     ·have h8:((n:Int)==1)=true:=by simp[A]
      cases u:pc s
      ·have q:bO k s n=false:=by simp[bO,O,U,V,Y,A,u]
       rw[pc]at u;rw[u]at H;rw[q];clear q HF u
       go_enter func76,ntmps76
       go_wp2_with fail
       go_ret
       exact cK rfl rfl (HB.out _)
      ·have q:bO k s n=true:=by simp[bO,O,U,V,Y,A,u]
       rw[pc]at u;rw[u]at H;rw[q];clear q HF u
       go_enter func76,ntmps76
       go_wp2_with fail
       go_ret
       exact cK rfl rfl (HB.out _)
     ·have h8:((n:Int)==1)=false:=ahy
      have q:bO k s n=false:=by simp[bO,O,U,V,Y,A]
      rw[q];clear q H HF
      go_enter func76,ntmps76
      go_wp2_with fail
      go_ret
      exact cK rfl rfl (HB.out _)
   ·skip
    by_cases A:1<n
    ·skip
     cases u:pc s
     ·have q:bO k s n=false:=by simp[bO,O,U,V,A,u]
      rw[pc]at u;rw[u]at H;rw[q];clear q HF u
      go_enter func76,ntmps76
      go_wp2_with fail
      go_ret
      exact cK rfl rfl (HB.out _)
     ·have q:bO k s n=true:=by simp[bO,O,U,V,A,u]
      rw[pc]at u;rw[u]at H;rw[q];clear q HF u
      go_enter func76,ntmps76
      go_wp2_with fail
      go_ret
      exact cK rfl rfl (HB.out _)
    ·have q:bO k s n=false:=by simp[bO,O,U,V,A]
     rw[q];clear q H HF
     go_enter func76,ntmps76
     go_wp2_with fail
     go_ret
     exact cK rfl rfl (HB.out _)
  ·skip
   by_cases A:1<n
   ·skip
    cases u:pc s
    ·have q:bO k s n=false:=by simp[bO,O,U,A,u]
     rw[pc]at u;rw[u]at H;rw[q];clear q HF u
     go_enter func76,ntmps76
     go_wp2_with fail
     go_ret
     exact cK rfl rfl (HB.out _)
    ·have q:bO k s n=true:=by simp[bO,O,U,A,u]
     rw[pc]at u;rw[u]at H;rw[q];clear q HF u
     go_enter func76,ntmps76
     go_wp2_with fail
     go_ret
     exact cK rfl rfl (HB.out _)
   ·have q:bO k s n=false:=by simp[bO,O,U,A]
    rw[q];clear q H HF
    go_enter func76,ntmps76
    go_wp2_with fail
    go_ret
    exact cK rfl rfl (HB.out _)
 ·by_cases A:n=0
  ·have h8:((n:Int)==0)=true:=by simp[A]
   have q:bO k s n=cB s:=by simp[bO,O,A]
   rw[q];clear q H A
   go_enter func76,ntmps76
   go_wp2_with fail
   refine(HF.out _).mono ?_;rintro e w1 ⟨rfl,hb1⟩
   go_wp2_with fail
   go_ret
   exact cK rfl rfl (cV (HB.out _) hb1)
  ·have h8:((n:Int)==0)=false:=ahy
   have q:bO k s n=false:=by simp[bO,O,A]
   rw[q];clear q H HF
   go_enter func76,ntmps76
   go_wp2_with fail
   go_ret
   exact cK rfl rfl (HB.out _)
end Go.Proofs.YtlhhccmopfamhaaGreatDoor
