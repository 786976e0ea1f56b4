/- texts of one claim, one behind the other. -/
import Derived.Test.YtlhhccmopfamhaaGreatDoorProg
import Derived.Test.YtlhhccmopfamhaaGreatDoorQValue
import Derived.Test.YtlhhccmopfamhaaGreatDoorQFen
import Derived.Maps.AppendAt
import Derived.Lib.SlicesCompact
set_option linter.unusedSimpArgs false
set_option linter.unusedVariables false
set_option maxRecDepth 100000
set_option maxHeartbeats 16000000
open Array renaming getD_eq_getD_getElem? -> afd
open Bool renaming and_eq_true -> ae6, or_eq_true -> afk, not_eq_true' -> afA, false_eq_true -> afC
open List renaming getElem?_eq_some_iff -> aeu, mem_cons_self -> afr, getElem?_toArray -> aeD, getElem?_inj -> afx, all_eq_true -> afh, getElem?_eq_getElem -> aeC, getElem_mem -> afy, getElem?_append_right -> aeK, mem_range -> afi, size_toArray -> afj, getElem?_of_mem -> aeI, filter_cons -> afB, getElem?_drop -> ae9, getElem?_cons_zero -> afD, getElem?_cons_succ -> afE, mem_of_getElem? -> aeQ, getD_eq_getElem?_getD -> ae2
open Nat renaming lt_or_ge -> aes, eq_zero_or_pos -> afz
namespace Go.Proofs.YtlhhccmopfamhaaGreatDoor
open Go.RowKit
open Go.Proofs.Tryz
section
open Go.RowKit Go.Shelf
attribute [local go_sem] Oper.semAt_some
def RJ(l:PP):B0:=l.flatMap (λp=>[p.bP,p.to])
end
section
open Go.RowKit Go.Shelf
attribute [local go_sem] Oper.semAt_some
def FN(out:B0)(s:ByteArray):B0:=if hasB out s then out else out++[s]
def Vv(xs:B0):B0:=xs.foldl FN []
theorem TE:(prog.info? 9).map (λi=>(i.zero,i.size,i.bytes))=some (some (.string ⟨#[]⟩),1,16):=zo
theorem I6{w:World}{base:Nat}{e:TypeId}{v:Value}{xs:B0}(h:w.ownsRow base e 1 v xs.length (xs.map Value.string)):rk w xs v:=by
 obtain⟨_,h|⟨g,cap,cur,rfl,_,u,O,H,U,A⟩⟩:=h
 ·exact .inl ⟨.inl h.1,List.length_eq_zero_iff.1 h.2⟩
 ·refine .inr ⟨g,0,cap,rfl,O,H,λi x q=>⟨[.string x],rfl,?_,trivial⟩⟩;rw[aC u];have hi:=(aeu.1 q).1
  have:(cur.toList.take (xs.length*1))[i]?=some (.string x):=by rw[A];simp[q]
  rw[List.getElem?_take_of_lt zd]at this;simpa using this
end
section
open Go.RowKit Go.Shelf
attribute [local go_sem] Oper.semAt_some
theorem MK{w:World}{base:Nat}{e:TypeId}{z:Nat}{v:Value}{n:Nat}{xs:IR}(h:w.ownsRow base e z v n xs):∀b off n c,v=.slice (some ⟨b,off,none⟩) n c->base<=b:=by
 intro b off m c hv
 rcases h.2 with⟨rfl,_⟩|⟨g,cap,cur,rfl,q,_⟩
 ·cases hv
 ·cases hv;exact q
theorem toList_inj{s t:ByteArray}:(s.toList==t.toList)=true↔s=t:=by
 refine⟨λh=>?_,λh=>by subst h;simp⟩;have h:=eq_of_beq h;rw[ByteArray.toList_eq,ByteArray.toList_eq]at h;obtain⟨⟨l⟩⟩:=s;obtain⟨⟨m⟩⟩:=t;have h:l=m:=h;subst h;rfl
theorem JS{α:Type}{f:α->α->Bool}:∀(xs ys:List α),(∀x∈xs,∀y,f x y=true↔x=y)->(nB f xs ys=true↔xs=ys)
 | [],[],_=>by simp[nB]
 | [],_::_,_=>by simp[nB]
 |_::_,[],_=>by simp[nB]
 |x::xs,y::ys,h=>by
  rw[nB,ae6,h x zk,JS xs ys (λa q=>h a (by simp[q]))];simp
theorem LU:∀x y:Ex,jd x y=true↔x=y:=by
 intro x
 induction x using Ex.ind with
 |h k s l ih=>
  rintro⟨u,s',q⟩;rw[wx,ae6,ae6,toList_inj,JS l q ih,beq_iff_eq];simp[and_assoc]
def acb(q:Lb):List zJ:=q.conds.flatMap (λc=>[c.left,c.right])++q.ret
def Kh(o:zJ):Int:=if o.kind==1 then 2 else if o.kind==3 then o.val.kind else 0
def Wy(vs:B0):Option B0->qS->Option B0
 |none,_=>none
 |some ns,p=>if pc p.name then some ns else if hasB ns p.name||hasB vs p.name then none else some (ns++[p.name])
def nmL(vs:B0)(ps:PP):Option B0:=ps.foldl (Wy vs) (some [])
def aea(vs ns:B0):List (ByteArray×Int):=vs.map (·,1)++ns.map (·,2)
def Ue(vs ns:B0)(o:zJ):Bool:=if o.kind==1 then hasB vs o.name else if o.kind==2 then hasB ns o.name else true
def UY(c:Jy):Bool:=Kh c.left !=0&&Kh c.right !=0&&Kh c.left !=Kh c.right
def ad7(q:Lb):Int:=if QG q then
  match nmL (Vv (RJ q.wH)) q.wH with
  |none=>9
  |some ns=>if(acb q).all (Ue (Vv (RJ q.wH)) ns)then(if q.conds.any UY then 10 else 0)else 8
 else 2
def ad2(l:B0):Prop:=∀k(h:k<l.length),hasB (l.take k) l[k]=false
def aeh(a b:B0)(s:ByteArray):ByteArray:=if CG a s<0 then s else b.getD (CG a s).toNat ⟨#[]⟩
def aec(f:ByteArray->ByteArray)(x:zJ):zJ:=if x.kind=1∨x.kind=2 then{x with name:=f x.name}else x
structure Inj(f:ByteArray->ByteArray):Prop where
 inj:∀s t,f s=f t->s=t
 free:∀s,cB (f s)=cB s
 no:∀s,pc (f s)=pc s
def rot{α:Type}(k:Nat)(l:List α):List α:=l.drop k++l.take k
def aef:B0:=[⟨#[97]⟩,⟨#[98]⟩,⟨#[99]⟩,⟨#[100]⟩,⟨#[101]⟩,⟨#[102]⟩,⟨#[103]⟩]
def Uf(p q:qS):Bool:=if fQ p.bP q.bP&&fQ p.to q.to&&p.path==q.path then(if p.path then jd p.expr q.expr else pc p.name&&pc q.name&&fQ p.label q.label)else false
def V3(ps:PP)(k:Nat):Bool:=match ps[k]? with
 |some p=>(ps.take k).any (λa=>Uf a p)
 |none=>false
def aca(ps:PP)(i:Nat):Do:=((List.range ps.length).drop i).filter (λk=> !V3 ps k)
def Zl(ps:PP):Do:=aca ps 0
def S6(p:qS):B0:=p.bP::p.to::(if !p.path && !pc p.name then [p.name]else [])
def MC(ps:PP)(out:B0)(k:Int):B0:=if 0<=k∧k<ps.length then(match ps[k.toNat]? with|some p=>(S6 p).foldl FN out|none=>out)else out
def yO(ps:PP)(ks:M2):B0:=ks.foldl (MC ps) []
def Zm(b:Bool):Nat:=if b then 1 else 0
def YV(ps:PP)(names:B0)(k:Int):Nat:=if 0<=k∧k<ps.length then(match ps[k.toNat]? with|some p=>Zm (hasB names p.bP)+Zm (hasB names p.to)|none=>0)else 0
def WK(ps:PP)(k:Nat):Bool:=match ps[k]? with
 |some p=>p.path
 |none=>false
def F2(ps:PP)(names:B0)(k:Nat):Int:=2*(YV ps names k:Int)+(if WK ps k then 0 else 1)
def Zg(r:Nat->Int):Do->Nat->Nat
 | [],m=>m
 |k::l,m=>Zg r l (if r k-r m > 0 then k else m)
def toI(l:Do):M2:=l.map (λk:Nat=>(k:Int))
def Vt(ps:PP)(out:Do):Do->Nat
 | []=>0
 |a::l=>Zg (F2 ps (yO ps (toI out))) l a
def ofL(ps:PP):Nat->Do->Do->Do
 |0,out,_=>out
 |n+1,out,left=>if left.isEmpty then out else ofL ps n (out++[Vt ps out left]) (left.filter (λk=>k !=Vt ps out left))
structure adp(ps:PP)(out left l:Do):Prop where
 len:l.length=out.length+left.length
 pre:l.take out.length=out
 mem:∀k,k∈l->k∈out∨k∈left
 nod:l.Nodup
 ad5:∀(i k:Nat)(hi:i<l.length)(hk:k<l.length),out.length<=i->i<k->F2 ps (yO ps (toI (l.take i))) l[k]<=F2 ps (yO ps (toI (l.take i))) l[i]∧(F2 ps (yO ps (toI (l.take i))) l[k]=F2 ps (yO ps (toI (l.take i))) l[i]->l[i]<l[k])
def aee(ps:PP):Do:=ofL ps (Zl ps).length [] (Zl ps)
theorem tQ:∀{a b:Do},a.Pairwise (· < ·)->b.Pairwise (· < ·)->(∀j,j∈a↔j∈b)->a=b
 | [],[],_,_,_=>rfl
 | [],y::b,_,_,h=>by grind[afr]
 |x::a,[],_,_,h=>by grind[afr]
 |x::a,y::b,A,u,h=>by
  rw[List.pairwise_cons]at A u
  have q:x=y:=by
   grind[afr]
  subst q;refine congrArg (x :: ·) (tQ A.2 u.2 (λj=>?_))
  grind
def srt(l:Do):Do:=(List.range (l.foldr max 0+1)).filter (λj=>l.contains j)
noncomputable def bh(w:B0)(L:B0->Prop)(fr:Do):Do:=(List.range (w.length+1)).filter (λj=> @decide (∃i,i∈fr∧Tk L w i j) (Classical.propDecidable _))
def aeb(w:B0)(s:ByteArray)(fr:Do):Do:=(fr.filter (λk=>decide (w[k]?=some s))).map (· + 1)
structure AgI(w:B0)(L:B0->Prop)(fr out:Do):Prop where
 qQ:out.Pairwise (· < ·)
 le:∀j,j∈out->j<=w.length
 sub:∀j,j∈fr->j∈out
 by':∀j,j∈out->∃i,i∈fr∧Tk (dU L) w i j
section
variable {P:Program} {ops:Array Oper} {N:pq}
def xx(P:Program)(ops:Array Oper)(S:jY N)(j:Nat)(o:Oper)(a:Act)(g:N.G):Prop:=
 (Region.wanted o (yielded ops a.tmps)=true∧abW P S j g ((execOp a.eval o).run P (N.wd g)))∨(Region.wanted o (yielded ops a.tmps)=false∧∃g',N.wd g'=N.wd g∧N.R g g'∧(∀i,i≠j->N.pre i g->N.pre i g')∧S.p undef g')
def MG(P:Program)(ops:Array Oper)(L:List (jY N))(g0:N.G)(Q:Act->World->Prop):GE->Nat->((Nat->Value)->Act)->Prop
 | [],k,A=>∀x g,N.R g0 g->(∀i,i<k->(Ch L i).p (x i) g)->Q (A x) (N.wd g)
 |o::l,k,A=>(∀x g,N.R g0 g->(∀i,bb ops k i=true->(Ch L i).p (x i) g)->N.pre k g->xx P ops (Ch L k) k o (A x) g)∧MG P ops L g0 Q l (k+1) (λx=>(A x).put o.dst (x k))
def Kv(ops:Array Oper)(i j:Nat):Bool:=
 match ops[i]?,ops[j]? with
 |some oi,some oj=>(bb ops j i||match oi.dst with|some d=> !(oj.looksAt ops).contains d|none=>true) && !bb ops i j&&(match oi.dst with|some d=>oj.dst !=some d|none=>true)&&(bb ops j i||match oj.dst with|some d=> !(oi.looksAt ops).contains d|none=>true)
 |_,_=>true
def tN(ops:Array Oper):Bool:=
 Region.noSelect ops&&(List.range ops.size).all (λj=>(List.range j).all (λi=>Kv ops i j)&&(!bb ops j j&&LV ops j))
def Sr(P:Program)(l:GE)(L:List (jY N))(g0:N.G)(a0:Act)(j:Nat)(o:Oper):Prop:=
 ∀x g,N.R g0 g->(∀i,bb l.toArray j i=true->(Ch L i).p (x i) g)->N.pre j g->xx P l.toArray (Ch L j) j o (il (λi=>decide (i<j)) x l 0 a0) g
theorem FJ{l:GE}{L:List (jY N)}{g0:N.G}{Q:Act->World->Prop}{a0:Act}(V:uk l):∀(u:GE)(k:Nat)(A:(Nat->Value)->Act),l.drop k=u->(A=λx=>il (λi=>decide (i<k)) x l 0 a0)->k<=l.length ->
  MG P l.toArray L g0 Q u k A->(∀j o,k<=j->l[j]?=some o->Sr P l L g0 a0 j o)∧(∀x g,N.R g0 g->(∀i,i<l.length->(Ch L i).p (x i) g)->Q (il (λi=>decide (i<l.length)) x l 0 a0) (N.wd g))
 | [],k,A,hl,q,hk,h=>by
  have Y:l.length=k:=by have:=congrArg List.length hl;grind
  subst q
  refine⟨λj o hj H=>?_,λx g hg U=>?_⟩
  ·grind
  ·rw[Y]at U⊢; exact h x g hg U
 |o::u,k,A,hl,q,hk,h=>by
  have Y:l.length=k+(u.length+1):=by have:=congrArg List.length hl;grind
  have W:l[k]?=some o:=by have:=congrArg (λm=>m[0]?) hl;grind
  subst q
  have rcr:=FJ V u (k+1) _ (by have:=congrArg List.tail hl;simpa using this) (by
    funext x
    have hi:=qG (s:=λi=>decide (i<k)) (x:=x) (v:=x k) l 0 k a0 V W zk;rw[Nat.zero_add]at hi;rw[<-hi];refine dp l 0 a0 (λi _ _=>?_)
    grind[fm,oJ]) zd h.2
  refine⟨λj o' hj H=>?_,rcr.2⟩
  by_cases O:j=k
  ·subst O;rw[W]at H;cases H;exact h.1
  grind
theorem jG{Q:Exit->Act->World->Prop}{a:Act}{w:World}{l:GE}(L:List (jY N))(hB:tN l.toArray=true)(g0:N.G)(hg0:N.wd g0=w.drew)(hp0:∀j,N.pre j g0)
  (h:MG P l.toArray L g0 (Q .normal) l 0 (λ_=>a)):wpAny P .any l.toArray Q l.toArray.size (Array.replicate l.toArray.size false) a w.drew:=by
 simp only[tN,ae6,List.all_eq_true,List.mem_range,List.size_toArray]at hB;obtain⟨hns,hall⟩:=hB;have hsel:=Region.noSelect_spec hns
 have hpair:∀i j oi oj,i<j->l[i]?=some oi->l[j]?=some oj->(bb l.toArray j i=true∨∀e,oi.dst=some e->e∉oj.looksAt l.toArray)∧bb l.toArray i j=false∧(∀e,oi.dst=some e->oj.dst≠some e)∧(bb l.toArray j i=true∨∀e,oj.dst=some e->e∉oi.looksAt l.toArray):=by
  intro i j oi oj q hi A;have hjn:=(aeu.1 A).1
  have:=(hall j hjn).1 i q
  simp only[Kv,aeD,hi,A,ae6,Bool.or_eq_true,Bool.not_eq_true']at this
  refine⟨?_,this.1.1.2,λe U=>?_,?_⟩
  ·rcases this.1.1.1 with h|h
   ·exact .inl h
   ·refine .inr (λe U=>?_);rw[U]at h;simpa using h
  ·have h3:=this.1.2;rw[U]at h3;simpa using h3
  ·rcases this.2 with h|h
   ·exact .inl h
   ·refine .inr (λe U=>?_);rw[U]at h;simpa using h
 have hself:∀j,j<l.length->bb l.toArray j j=false:=λj A=>by simpa using(hall j A).2.1
 have hfar:∀(j:Nat)(o:Oper),l[j]?=some o->∀e∈o.after,e.on<l.length:=λj o A e U=>by
  have:=(hall j (aeu.1 A).1).2.2
  simp only[LV,aeD,A,Array.all_eq_true_iff_forall_mem]at this;simpa using this e U
 have hA:uk l:=λi j oi oj hi A q e U=>by
  rcases Nat.lt_or_gt_of_ne q with h|h
  ·exact(hpair i j oi oj h hi A).2.2.1 e U
  ·intro h2;exact(hpair j i oj oi h A hi).2.2.1 e h2 U
 obtain⟨hO,hfin⟩:=FJ (P:=P) (L:=L) (g0:=g0) (Q:=Q .normal) (a0:=a) hA l 0 (λ_=>a) zk (by
  funext x
  exact(show a=il (λ_=>false) x l 0 a from by
   have:∀(l:GE)k,a=il (λ_=>false) x l k a:=by
    intro l
    induction l with
    |nil=>intro k;rfl
    |cons o l ih=>intro k;rw[il];exact ih (k+1)
   exact this l 0).trans (dp l 0 a (λi _ _=>zk))) (Nat.zero_le _) h

 have hloose:∀i j oi oj,l[i]?=some oi->l[j]?=some oj->i≠j->bb l.toArray j i=false->bb l.toArray i j=false->∀d,oi.dst=some d->d∉oj.looksAt l.toArray:=by
  intro i j oi oj hi A q W hd'
  rcases Nat.lt_or_gt_of_ne q with h|h
  ·rcases(hpair i j oi oj h hi A).1 with H|H
   ·rw[W]at H;cases H
   ·exact H
  ·rcases(hpair j i oj oi h A hi).2.2.2 with H|H
   ·rw[hd']at H;cases H
   ·exact H

 have hsee:∀(s s':Nat->Bool)x j oj,l[j]?=some oj->s j=false->s' j=false->(∀i,i<l.length->bb l.toArray i j=true->s i=false∧s' i=false)->(∀i,i<l.length->bb l.toArray j i=true->s i=true∧s' i=true) ->
   execOp (il s x l 0 a).eval oj=execOp (il s' x l 0 a).eval oj∧Region.wanted oj (yielded l.toArray (il s x l 0 a).tmps)=Region.wanted oj (yielded l.toArray (il s' x l 0 a).tmps):=by
  intro s s' x j oj A H h2 hbk W
  have one:=λ(s:Nat->Bool)(hs:s j=false)(hs2:∀i,i<l.length->bb l.toArray i j=true->s i=false)=>Bv (ops:=l.toArray) (s:=s) (keep:=bb l.toArray j) (x:=x) (a:=a) hA (λcs b=>hsel j oj cs b (by simpa using A))
   (λi oi hi hsi hk=>hloose i j oi oj hi A (by intro e;subst e;rw[hsi]at hs;cases hs) hk (by
    cases hq:bb l.toArray i j
    ·rfl
    ·rw[hs2 i (aeu.1 hi).1 hq]at hsi;cases hsi))
  obtain⟨a1,a2⟩:=one s H (λi hi hq=>(hbk i hi hq).1);obtain⟨b1,b2⟩:=one s' h2 (λi hi hq=>(hbk i hi hq).2)
  have e:il (λi=>s i&&bb l.toArray j i) x l 0 a=il (λi=>s' i&&bb l.toArray j i) x l 0 a:=dp l 0 a (λi _ hi=>by
   refine⟨?_,λ_=>rfl⟩
   cases hk:bb l.toArray j i
   ·simp
   ·obtain⟨c1,c2⟩:=W i zd hk
    simp[c1,c2])
  exact⟨by rw[a1,b1,e],by rw[a2,b2,e]⟩
 have full:∀(listed:Array Bool),listed.size=l.length->(∀i,i<l.length->listed.getD i false=true)->Region.ready .any l.toArray listed=[]∧∀x,il (λi=>listed.getD i false) x l 0 a=il (λi=>decide (i<l.length)) x l 0 a:=λlisted Y hall'=>by
  refine⟨List.eq_nil_iff_forall_not_mem.2 (λi hi=>?_),λx=>dp l 0 a (λi _ hi=>⟨?_,λ_=>rfl⟩)⟩
  ·obtain⟨g1,o,g2, -⟩:=mem_ready.1 hi;have hil:i<l.length:=(aeu.1 (show l[i]?=some o by simpa using g2)).1;have g3:=hall' i hil
   have his:i<listed.size:=zd
   simp only[afd,Array.getElem?_eq_getElem his,Option.getD_some]at g1 g3;rw[g3]at g1;cases g1
  ·have:i<l.length:=zd
   rw[hall' i this];simp[this]
 have main:∀fuel(listed:Array Bool)x g1,listed.size=l.length->N.R g0 g1->(∀i,listed.getD i false=true->(Ch L i).p (x i) g1) ->
   (∀j i,listed.getD j false=true->bb l.toArray j i=true->listed.getD i false=true)->(∀j,listed.getD j false=false->N.pre j g1)->GW (λi=>listed.getD i false) l.length<=fuel ->
   wpAny P .any l.toArray Q fuel listed (il (λi=>listed.getD i false) x l 0 a) (N.wd g1):=by
  intro fuel
  induction fuel with
  |zero=>
   intro listed x g1 Y hE hF hcl hpre hu
   have hall':∀i,i<l.length->listed.getD i false=true:=λi hi=>by
    cases hc:listed.getD i false
    ·have:=KU (s:=λi=>listed.getD i false) l.length hi hc
     omega
    ·rfl
   exact wpAny_done (full listed Y hall').1 (by rw[(full listed Y hall').2 x];exact hfin x g1 hE (λi hi=>hF i (hall' i hi))) 0
  |succ fuel ih=>
   intro listed x g1 Y hE hF hcl hpre hu
   have hmemR:∀j,j∈Region.ready .any l.toArray listed->∃oj,l[j]?=some oj∧listed.getD j false=false∧∀i,bb l.toArray j i=true->listed.getD i false=true:=by
    intro j A;obtain⟨H,o,ho,h3⟩:=mem_ready.1 A
    refine⟨o,by simpa using ho,?_,λi hi=>?_⟩
    ·rcases Nat.lt_or_ge j listed.size with h'|h'
     ·simp[h']at H⊢; exact H
     ·simp[Array.getElem?_eq_none h']
    ·simp only[bb,ho,ae6,beq_iff_eq,Array.any_eq_true']at hi;obtain⟨e,U,hb,rfl⟩:=hi;exact h3 e U hb
   refine⟨λh0=>?_,λj A=>?_⟩
   ·
    have hex:(∀i,i<l.length->listed.getD i false=true)∨∃m,m<l.length∧listed.getD m false=false∧∀i,i<m->listed.getD i false=true:=by
     have:∀k,k<=l.length->(∀i,i<k->listed.getD i false=true)∨∃m,m<l.length∧listed.getD m false=false∧∀i,i<m->listed.getD i false=true:=by
      intro k
      induction k with
      |zero=>exactλ_=> .inl (λi hi=>zd)
      |succ k ihk=>
       intro hk
       rcases ihk zd with h|h
       ·cases hc:listed.getD k false
        ·exact .inr ⟨k,zd,hc,h⟩
        ·exact .inl (λi hi=>by
          by_cases e:i=k
          ·subst e;exact hc
          ·exact h i zd)
       ·exact .inr h
     exact this l.length (Nat.le_refl _)
    rcases hex with hall'|hex
    ·rw[(full listed Y hall').2 x];exact hfin x g1 hE (λi hi=>hF i (hall' i hi))
    exfalso;obtain⟨m,hm1,hm2,hm3⟩:=hex
    have hmem:m∈Region.ready .any l.toArray listed:=by
     refine mem_ready.2 ⟨?_,l[m],by simp[hm1],λe U hb=>?_⟩
     ·have hms:m<listed.size:=zd
      simp[hms]at hm2⊢; exact hm2
     ·have W:bb l.toArray m e.on=true:=by
       have:l.toArray[m]?=some l[m]:=by simp[hm1]
       simp only[bb,this];simp only[Array.any_eq_true',ae6,beq_iff_eq];exact⟨e,U,hb,rfl⟩
      rcases Nat.lt_trichotomy e.on m with h|h|h
      ·exact hm3 _ h
      ·rw[h,hself m hm1]at W;cases W
      ·by_cases hl:e.on<l.length
       ·have:=(hpair m e.on l[m] l[e.on] h (by simp[hm1]) (by simp[hl])).2.1
        rw[W]at this;cases this
       ·exact absurd (hfar m l[m] (by simp[hm1]) e U) hl
    rw[h0]at hmem;cases hmem
   ·obtain⟨oj,V,hun,hdeps⟩:=hmemR j A;have hjl:=(aeu.1 V).1
    have hsj:(listed.setIfInBounds j true).size=l.length:=by simpa using Y
    have hgd:∀i,(listed.setIfInBounds j true).getD i false=fm (λi=>listed.getD i false) j i:=by
     intro i
     by_cases q:i=j
     ·subst q
      have:i<listed.size:=zd
      simp[fm,this]
     ·simp only[fm,if_neg q];exact getD_set_ne false (Ne.symm q)
    have hO:=hO j oj (Nat.zero_le _) V;unfold wpOp;simp only[aeD,V];have hst:=hO x g1 hE (λi hi=>hF i (hdeps i hi)) (hpre j hun)
    have hbk:∀i,i<l.length->bb l.toArray i j=true->listed.getD i false=false∧decide (i<j)=false:=by
     intro i hi hq
     constructor
     ·cases hli:listed.getD i false
      ·rfl
      ·have:=hcl i j hli hq
       rw[hun]at this;cases this
     ·rcases Nat.lt_or_ge i j with h|h
      ·have:=(hpair i j l[i] oj h (by simp[hi]) V).2.1
       rw[hq]at this;cases this
      ·simpa using h
    obtain⟨c1,c2⟩:=hsee (λi=>listed.getD i false) (λi=>decide (i<j)) x j oj V hun zk hbk (λi hi W=>⟨hdeps i W,by
      rcases Nat.lt_trichotomy i j with h|h|h
      ·simpa using h
      ·rw[h,hself j hjl]at W;cases W
      ·have:=(hpair j i oj l[i] h V (by simp[hi])).2.1
       rw[W]at this;cases this⟩)
    have next:∀v g2,N.R g1 g2->(∀i,i≠j->N.pre i g1->N.pre i g2)->(Ch L j).p v g2->wpAny P .any l.toArray Q fuel (listed.setIfInBounds j true) ((il (λi=>listed.getD i false) x l 0 a).put oj.dst v) (N.wd g2):=by
     intro v g2 hb hpp hv;have hi:=qG (s:=λi=>listed.getD i false) (x:=x) (v:=v) l 0 j a hA V (by simpa using hun);rw[Nat.zero_add]at hi;rw[<-hi, <- show(λi=>(listed.setIfInBounds j true).getD i false)=fm (λi=>listed.getD i false) j from funext hgd]
     refine ih _ _ g2 hsj (N.trans' _ _ _ hE hb) (λi hi'=>?_) (λj' i O W=>?_) (λj' O=>?_) ?_
     ·rw[hgd]at hi'
      by_cases q:i=j
      ·subst q;simpa [oJ]using hv
      ·simp only[fm,if_neg q]at hi';simp only[oJ,if_neg q];exact(Ch L i).st _ _ _ hb (hF i hi')
     ·rw[hgd]at O⊢
      by_cases q:i=j
      ·simp[fm,q]
      ·simp only[fm,if_neg q]
       by_cases hj2:j'=j
       ·subst hj2;exact hdeps i W
       ·simp only[fm,if_neg hj2]at O;exact hcl j' i O W
     ·rw[hgd]at O
      by_cases hj2:j'=j
      ·simp[fm,hj2]at O
      ·simp only[fm,if_neg hj2]at O;exact hpp j' hj2 (hpre j' O)
     ·rw[qI (s':=fm (λi=>listed.getD i false) j) l.length (λi _=>hgd i)]
      have:=xo (s:=λi=>listed.getD i false) (i:=j) l.length hjl hun
      omega
    unfold xx at hst;rw[<-c1, <- c2]at hst
    rcases hst with⟨H,h2⟩|⟨H,h2⟩
    ·rw[if_pos H];refine .inl ?_;unfold Oper.wp;generalize(execOp (il (λi=>listed.getD i false) x l 0 a).eval oj).run P (N.wd g1)=r at h2
     cases r with
     |halt _ _=>exact h2.elim
     |ok n w'=>
      cases n<;>first|exact h2.elim|skip
      case value u=>obtain⟨g2,rfl,k1,k3,k2⟩:=h2;exact next _ _ k1 k3 k2
      case skip=>obtain⟨g2,rfl,k1,k3,k2⟩:=h2;exact next _ _ k1 k3 k2
      case enter f args=>
       refine Calls.mono h2 λe w'' U=>?_;obtain⟨v,g2,rfl,rfl,k1,k3,k2⟩:=U
       exact next _ _ k1 k3 k2
    ·rw[if_neg (by rw[H];decide)];obtain⟨g2,e2,k1,k3,k2⟩:=h2;rw[<-e2]
     exact next _ _ k1 k3 k2
 have hrep:∀i,(Array.replicate l.toArray.size false).getD i false=false:=λi=>by
  simp only[afd,Array.getElem?_replicate];split<;>rfl
 have h0:=main l.toArray.size (Array.replicate l.toArray.size false) (λ_=>undef) g0 zk (N.acd _)
  (λi hi=>by rw[hrep]at hi;cases hi) (λj i A=>by rw[hrep]at A;cases A) (λj _=>hp0 j) (Jo _)
 have e:il (λi=>(Array.replicate l.toArray.size false).getD i false) (λ_=>undef) l 0 a=a:=by
  have:∀(l':GE)k,il (λi=>(Array.replicate l.toArray.size false).getD i false) (λ_=>undef) l' k a=a:=by
   intro l'
   induction l' with
   |nil=>intro k;rfl
   |cons o l' ih=>intro k;rw[il,hrep];exact ih (k+1)
  exact this l 0
 rw[e,hg0]at h0;exact h0
end
end
section
variable {D:Nat->Prop} {nu:EQ} {o:AC} {w:World} {P:Program}
def Qe:Op->Bool
 | .move _| .assign _| .nilCheck _| .build .. | .binOp .. | .unOp .. | .convert .. | .makeFunc .. | .fieldAddr .. | .field .. | .index .. | .extract .. | .pick .. | .box .. | .buildSlice .. =>true
 |_=>false
theorem Lj{op:Op}(h:Qe op=true){t:C5}{o o':AC}{y:kz}{K:AV->Prop}(q:dN P op ⟨t,o,y⟩ K):dN P op ⟨t,o',y⟩ K:=by
 cases op with
 |makeFunc fn a b=>cases fn<;>exact q
 |_=>first|(cases h;done)|exact q
def dQ(P:Program)(f:FuncId)(args:C5)(o:AC)(K:AV->AC->Prop):Prop:=∃r o',bR P f args o r o'∧K r o'
@[congr] theorem R9{f:FuncId}{args args':C5}{o o':AC}{K:AV->AC->Prop}(h:args=args')(k:o=o'):dQ P f args o K=dQ P f args' o' K:=by rw[h,k]
theorem dQ.out{f:FuncId}{args:C5}{r:AV}{o':AC}{K:AV->AC->Prop}(h:bR P f args o r o')(k:K r o'):dQ P f args o K:=⟨r,o',h,k⟩
theorem dQ.fr{f:FuncId}{args args0:C5}{o0 o1:AC}{H:AV}{K:AV->AC->Prop}(ids:Do)(h:bR P f args0 o0 H o1)(A:ids.Nodup)
  (O:ids.map (λi=>o[i]?)=o0.map (λx=>some (x.map (aa.ba (sig ids o.length)))))
  (hargs:args=bV (sig ids o.length) args0)(u:aU ids.length args0=true)(q:∀(k:Nat)ob,o0[k]?=some (some ob)->bD ids.length ob.rows=true)
  (k:K (H.ba (sig ids o.length)) (fj (sig ids o.length) ids o1 o)):dQ P f args o K:=
 ⟨_,_,(ft.frame ids h A O hargs u q).mono (λr o' U=>by
  grind),k⟩
def K8(P:Program)(f:AV)(args:C5)(o:AC)(K:AV->AC->Prop):Prop:=match f with
 | .fn g first caps=>dQ P g (first++args++caps) o K
 |_=>False
@[congr] theorem VJ{f f':AV}{args args':C5}{o o':AC}{K:AV->AC->Prop}(h:f=f')(k:args=args')(l:o=o'):K8 P f args o K=K8 P f' args' o' K:=by rw[h,k,l]
theorem Sc(g:FuncId)(first caps args:C5)(o:AC)(K:AV->AC->Prop):K8 P (.fn g first caps) args o K=dQ P g (first++args++caps) o K:=rfl
def zK(P:Program)(op:Op)(s:AS)(K:AV->AC->Prop):Prop:=match op with
 | .pick _ _ _=>False
 | .call c=>match c.callee with
  | .value f=>K8 P (s.ev f) (c.args.toList.map s.ev) s.o K
  |_=>AR (SD P s.ev s.o (.call c)) K
 |op=>AR (SD P s.ev s.o op) K
theorem Sx{s:AS}{op:Op}{K:AV->AC->Prop}(h:zK P op s K):∃r o',K r o'∧zK P op s (λq o''=>q=r∧o''=o'):=by
 unfold zK at h⊢
 split at h
 ·exact h.elim
 ·split at h
  ·unfold K8 at h⊢
   split at h
   ·obtain⟨r,o',A,u⟩:=h;exact⟨r,o',u,r,o',A,rfl,rfl⟩
   grind
  ·unfold AR at h⊢
   grind
 ·unfold AR at h⊢
  grind
theorem Li{s:AS}{rho:Operand->Value}{oo:Oper}{r:AV}{o':AC}(h:RO D nu s.o w)(q:Si D nu s.o w s.ev rho oo.op)(u:zK P oo.op s (λA o''=>A=r∧o''=o')) :
  (∃v w' nu',((execOp rho oo).run P w=.ok (.value v) w'∨((execOp rho oo).run P w=.ok .skip w'∧v=Go.undef))∧cf nu s.o w nu' o' w'∧RO D nu' o' w'∧RA D nu' o' w' r v) ∨
  (∃g vargs,(execOp rho oo).run P w=.ok (.enter g vargs) w∧Calls P g vargs w (λe w'=>∃v nu',e=.returned v∧cf nu s.o w nu' o' w'∧RO D nu' o' w'∧RA D nu' o' w' r v)):=by
 have hop:∀op,oo.op=op->AR (SD P s.ev s.o op) (λA o''=>A=r∧o''=o')->(∃v w' nu',((execOp rho oo).run P w=.ok (.value v) w'∨((execOp rho oo).run P w=.ok .skip w'∧v=Go.undef))∧cf nu s.o w nu' o' w'∧RO D nu' o' w'∧RA D nu' o' w' r v):=by
  intro op O hh;subst O;unfold AR at hh
  split at hh
  ·rename_i p V o1 e;obtain⟨hp,rfl,rfl⟩:=hh;obtain⟨v,w',nu',h1,h2,h3,h4⟩:=Ep (P:=P) h q e hp
   grind
  grind
 unfold zK at u
 split at u
 ·exact u.elim
 ·rename_i c O
  split at u
  ·rename_i f hc;unfold K8 at u
   split at u
   ·rename_i g first caps e
    obtain⟨V,o1,hcall,rfl,rfl⟩:=u;have U:=q f (by grind[Op.operands,Call.operands]);rw[e]at U;generalize hq:rho f=vf at U
    cases U with
    |fn _ _ _ fi ca Y W q3 q4=>
    have hargs:∀x,x∈c.args.toList->RA D nu s.o w (s.ev x) (rho x):=λx hx=>q x (by grind[Op.operands,Call.operands])
    have H:gC D nu s.o w (first++c.args.toList.map s.ev++caps) (fi++c.args.map rho++ca):=by
     refine⟨by simp[Y,W],λi cc x k1 k2=>?_⟩
     grind
    refine .inr ⟨g,_,?_,(hcall.2 D nu w _ h H).mono ?_⟩
    ·simp only[execOp,O,resolve,hc,hq,Deferred.ofValue,Sem.run_bind,Sem.run_pure,Result.andThen_ok,invoke];exact kW hcall.1 _ w
    ·rintro e w' ⟨v,nu',o2,r2,rfl,m1,m2,m3,rfl,rfl⟩
     grind
   grind
  grind
 grind
def o7:NE->Nat->Option Nat
 | [],_=>none
 |(j,lo)::fs,k=>if j=k∧lo<1000 then some lo else o7 fs k
def s7(ops:Array Oper):Nat->GT
 |0,_,_=>false
 |n+1,j,i=>bb ops j i||(List.range ops.size).any (λk=>bb ops j k&&s7 ops n k i)
def Tu(ops:Array Oper)(es:Do)(j:Nat):Bool:=es.all (λe=>decide (e=j)||if e<j then s7 ops ops.size j e else s7 ops ops.size e j)
def qY:Do->Bool
 | []=>true
 | [_]=>true
 |a::b::l=>decide (a<b)&&qY (b::l)
def O6(ops:Array Oper)(es:Do)(fs:NE)(j:Nat):Bool:=match o7 fs j with
 |some lo=>decide (lo<=es.length)&&(es.take lo).all (λe=>s7 ops ops.size j e)&&es.all (λe=>decide (e<j)||(e !=j&&s7 ops ops.size e j))
 |none=>false
structure GG(D:Nat->Prop)(nu0:EQ)(o0:AC)(w0:World)(l:GE)(es:Do)(O:Nat->AC)where
 w:World
 nu:EQ
 done:Nat->Bool
 c:Nat
 ro:RO D nu (O c) w
 mono:cf nu0 o0 w0 nu (O c) w
 cl:∀j i,done j=true->bb l.toArray j i=true->done i=true
 ef:∀k e,es[k]?=some e->(done e=true↔k<c)
 le:c<=es.length
variable {nu0:EQ} {o0:AC} {w0:World} {l:GE} {es:Do} {O:Nat->AC}
def eu(D:Nat->Prop)(nu0:EQ)(o0:AC)(w0:World)(l:GE)(es:Do)(O:Nat->AC):pq:=
 ⟨GG D nu0 o0 w0 l es O,GG.w,λg g'=>cf g.nu (O g.c) g.w g'.nu (O g'.c) g'.w∧∀j,g.done j=true->g'.done j=true,λg=>⟨.refl _ _ _,λ_ h=>h⟩,λ_ _ _ h k=>⟨h.1.trans k.1,λj hj=>k.2 j (h.2 j hj)⟩,λj g=>g.done j=false⟩
def rb(D:Nat->Prop)(nu0:EQ)(o0:AC)(w0:World)(l:GE)(es:Do)(O:Nat->AC)(k:Nat)(r:AV):jY (eu D nu0 o0 w0 l es O):=
 ⟨λv g=>RA D g.nu (O g.c) g.w r v∧g.done k=true,λv g g' hR h=>⟨h.1.mono hR.1 (λ_ _ h=>h),hR.2 k h.2⟩⟩
def GG.next(g:GG D nu0 o0 w0 l es O)(k:Nat)(w':World)(hb:Below g.w.heap.size g.w w')(hd:∀i,bb l.toArray k i=true->g.done i=true)(he:es.contains k=false):GG D nu0 o0 w0 l es O where
 w:=w'
 nu:=g.nu
 done:=λj=>if j=k then true else g.done j
 c:=g.c
 ro:=g.ro.below hb
 mono:=g.mono.trans (aG hb)
 cl:=λj i h1 h2=>by
  by_cases hi:i=k
  ·simp[hi]
  ·simp only[if_neg hi]
   by_cases hj:j=k
   ·grind
   ·simp only[if_neg hj]at h1;exact g.cl j i h1 h2
 ef:=λm e h=>by
  have hne:e≠k:=λhh=>by
   grind
  simp only[if_neg hne];exact g.ef m e h
 le:=g.le
theorem GG.Wx(g:GG D nu0 o0 w0 l es O)(k:Nat)(w':World)(q:Below g.w.heap.size g.w w')(A:∀i,bb l.toArray k i=true->g.done i=true)(u:es.contains k=false) :
  (eu D nu0 o0 w0 l es O).R g (g.next k w' q A u)∧∀i,i≠k->(eu D nu0 o0 w0 l es O).pre i g->(eu D nu0 o0 w0 l es O).pre i (g.next k w' q A u):=by
 refine⟨⟨aG q,λj H=>?_⟩,λi hi h=>?_⟩
 ·show(if j=k then true else g.done j)=true
  grind
 ·show(if i=k then true else g.done i)=false;simp[hi];exact h
def GG.eff(g:GG D nu0 o0 w0 l es O)(k:Nat)(w':World)(nu':EQ)(hm:cf g.nu (O g.c) g.w nu' (O (g.c+1)) w')(hr:RO D nu' (O (g.c+1)) w')(hd:∀i,bb l.toArray k i=true->g.done i=true)(he:es[g.c]?=some k)(hn:es.Nodup):GG D nu0 o0 w0 l es O where
 w:=w'
 nu:=nu'
 done:=λj=>if j=k then true else g.done j
 c:=g.c+1
 ro:=hr
 mono:=g.mono.trans hm
 cl:=λj i h1 h2=>by
  by_cases hi:i=k
  ·simp[hi]
  ·simp only[if_neg hi]
   by_cases hj:j=k
   ·grind
   ·simp only[if_neg hj]at h1;exact g.cl j i h1 h2
 ef:=λm e h=>by
  by_cases hek:e=k
  ·grind[afx,aeu]
  ·simp only[if_neg hek]
   have hne:m≠g.c:=λhh=>by grind
   rw[g.ef m e h];omega
 le:=(aeu.1 he).1
theorem GG.YU(g:GG D nu0 o0 w0 l es O)(k:Nat)(w':World)(nu':EQ)(q:cf g.nu (O g.c) g.w nu' (O (g.c+1)) w')(u:RO D nu' (O (g.c+1)) w')(H:∀i,bb l.toArray k i=true->g.done i=true)(A:es[g.c]?=some k)(hn:es.Nodup) :
  (eu D nu0 o0 w0 l es O).R g (g.eff k w' nu' q u H A hn)∧∀i,i≠k->(eu D nu0 o0 w0 l es O).pre i g->(eu D nu0 o0 w0 l es O).pre i (g.eff k w' nu' q u H A hn):=by
 refine⟨⟨q,λj U=>?_⟩,λi hi h=>?_⟩
 ·show(if j=k then true else g.done j)=true
  grind
 ·show(if i=k then true else g.done i)=false;simp[hi];exact h
theorem mM(g:GG D nu0 o0 w0 l es O):∀(n j i:Nat),s7 l.toArray n j i=true->g.done j=true->g.done i=true
 |0,_,_,h,_=>by cases h
 |n+1,j,i,h,q=>by
  simp only[s7,afk,List.any_eq_true,ae6]at h
  rcases h with h|⟨k,_,A,u⟩
  ·exact g.cl j i q h
  ·exact mM g n k i u (g.cl j k q A)
theorem uU(g:GG D nu0 o0 w0 l es O){n j i:Nat}(h:s7 l.toArray n j i=true)(q:∀i,bb l.toArray j i=true->g.done i=true):g.done i=true:=by
 cases n with
 |zero=>cases h
 |succ n=>
  simp only[s7,afk,List.any_eq_true,ae6]at h
  grind[mM]
theorem GG.Et(g:GG D nu0 o0 w0 l es O){k m:Nat}(V:Tu l.toArray es k=true)(hd:∀i,bb l.toArray k i=true->g.done i=true)(hk:g.done k=false)(hm:∀W e,es[W]?=some e->(e<k↔W<m))(Y:m<=es.length):g.c=m:=by
 simp only[Tu,afh,afk,decide_eq_true_eq]at V
 have h1:g.c<=m:=by
  rcases aes m g.c with q|q
  ·exfalso;have u:m<es.length:=Nat.lt_of_lt_of_le q g.le;have A:es[m]?=some es[m]:=aeC u;have hdn:=(g.ef m _ A).2 q
   have U: ¬es[m]<k:=λhh=>by grind
   rcases V _ (afy u)with h|h
   ·grind
   ·rw[if_neg U]at h
    grind[mM]
  ·exact q
 have h2:m<=g.c:=by
  rcases afz m with q|q
  ·omega
  ·have u:m-1<es.length:=zd
   have A:es[m-1]?=some es[m-1]:=aeC u;have H:=(hm _ _ A).2 zd
   rcases V _ (afy u)with h|h
   ·omega
   ·rw[if_pos H]at h
    have:=(g.ef _ _ A).1 (uU g h hd)
    omega
 omega
theorem GG.Oi(g:GG D nu0 o0 w0 l es O){k m lo:Nat}{fs:NE}(W:O6 l.toArray es fs k=true)(H:o7 fs k=some lo)(hd:∀i,bb l.toArray k i=true->g.done i=true)(hk:g.done k=false)(hm:∀V e,es[V]?=some e->(e<k↔V<m)):lo<=g.c∧g.c<=m:=by
 simp only[O6,H,ae6,afh,afk,decide_eq_true_eq]at W;obtain⟨⟨h0,h1⟩,h2⟩:=W
 constructor
 ·rcases afz lo with q|q
  ·omega
  ·have u:lo-1<es.length:=zd
   have U:es[lo-1]?=some es[lo-1]:=aeC u;have A:es[lo-1]∈es.take lo:=List.mem_take_iff_getElem.2 ⟨lo-1,zd,rfl⟩
   have:=(g.ef _ _ U).1 (uU g (h1 _ A) hd)
   omega
 ·rcases aes m g.c with q|q
  ·exfalso;have u:m<es.length:=Nat.lt_of_lt_of_le q g.le;have U:es[m]?=some es[m]:=aeC u;have Y:=(g.ef m _ U).2 q
   grind[afy,mM]
  ·exact q
theorem Ho{N:pq}{f:Nat->AV->jY N}{rs:C5}{i:Nat}{e:AV}(h:rs[i]?=some e):Ch (rs.mapIdx f) i=f i e:=by
 grind[Ch]
theorem SL{N:pq}{f:Nat->AV->jY N}{rs:C5}{i:Nat}{e:AV}(h:rs[i]?=some e):Ch (rs.mapIdx f) i=f i e:=Ho h
structure Sj(l:GE)(s:AS)(a:Act)(k:Nat)(sk:AS)(rs:C5)(A:(Nat->Value)->Act):Prop where
 y:sk.y=s.y
 len:rs.length=k
 mb:∀x,(A x).defers=a.defers
 size:∀x,sk.t.length=(A x).tmps.size
 val:∀x(t:Nat)c v,sk.t[t]?=some c->(A x).tmps[t]?=some v->(s.t[t]?=some c∧a.tmps[t]?=some v)∨∃i,i<k∧(∃oi,l[i]?=some oi∧oi.dst=some t)∧rs[i]?=some c∧v=x i
theorem Sj.step{l:GE}{s:AS}{a:Act}{k:Nat}{sk:AS}{rs:C5}{A:(Nat->Value)->Act}(h:Sj l s a k sk rs A){oo:Oper}(W:l[k]?=some oo)(r:AV)(o':AC) :
  Sj l s a (k+1) (sk.put oo.dst r o') (rs++[r]) (λx=>(A x).put oo.dst (x k)):=by
 refine⟨h.y,by simp[h.len],λx=>?_,λx=>?_,λx t c v q u=>?_⟩
 ·have:=h.mb x;cases oo.dst<;>simpa [Act.put]using this
 ·have:=h.size x;cases oo.dst<;>simpa [Act.put,AS.put]using this
 ·have nZ:sk.t[t]?=some c->(A x).tmps[t]?=some v->(s.t[t]?=some c∧a.tmps[t]?=some v)∨∃i,i<k+1∧(∃oi,l[i]?=some oi∧oi.dst=some t)∧(rs++[r])[i]?=some c∧v=x i:=by
   intro q u
   rcases h.val x t c v q u with Y|⟨i,q1,q2,q3,q4⟩
   ·exact .inl Y
   grind
  cases V:oo.dst with
  |none=>rw[V]at q u;exact nZ q u
  |some d=>
   rw[V]at q u;simp only[AS.put,Act.put]at q u
   by_cases U:d=t
   ·subst U;have H:=(aeu.1 q).1;simp only[List.length_set]at H;rw[List.getElem?_set_self H]at q;rw[Array.getElem?_setIfInBounds_self_of_lt (by grind)]at u;cases q;cases u;exact .inr ⟨k,zd,⟨oo,W,V⟩,by rw[aeK (by rw[h.len];omega),h.len,Nat.sub_self];rfl,rfl⟩
   grind
theorem Ih{l:GE}(H:tN l.toArray=true){i j:Nat}{oi oj:Oper}(u:i<j)(hi:l[i]?=some oi)(A:l[j]?=some oj):bb l.toArray j i=true∨∀d,oi.dst=some d->d∉oj.looksAt l.toArray:=by
 simp only[tN,ae6,afh,afi,afj]at H;have q:=(aeu.1 A).1
 have:=(H.2 j q).1 i u
 simp only[Kv,aeD,hi,A,ae6,afk,afA]at this
 grind
theorem mW:∀{l:Do},qY l=true->∀(i j x y:Nat),i<j->l[i]?=some x->l[j]?=some y->x<y
 | [],_,i,j,x,y,_,h,_=>by simp at h
 | [a],_,i,j,x,y,A,q,u=>by
  grind
 |a::b::l,h,i,j,x,y,A,q,u=>by
  simp only[qY,ae6,decide_eq_true_eq]at h
  match i,j,q,u with
  |0,1,q,u=>grind
  |0,j+2,q,u=>
   cases q
   have:=mW h.2 0 (j+1) b y zd rfl (by grind)
   omega
  |i+1,j+1,q,u=>exact mW h.2 i j x y zd (by grind) (by grind)
theorem mj{l:Do}(h:qY l=true):l.Nodup:=by
 refine List.pairwise_iff_getElem.2 (λi j hi u q=>?_)
 have:=mW h i j _ _ q (aeC hi) (aeC u)
 omega
def yz:NE->Nat->Option Nat
 | [],_=>none
 |(j,lo)::fs,k=>if j=k∧1000<=lo then some (lo-1000)else yz fs k
def WN:Option (Nat->AC->Prop)->Nat->AC->Prop
 |none,_,_=>True
 |some p,k,o=>p k o
def l5(es:Do)(k:Nat):Do:=es.filter (λe=>decide (k<=e))
theorem qp{es:Do}{k:Nat}(h:es.contains k=false):l5 es k=l5 es (k+1):=by
 refine List.filter_congr λe A=>?_
 have q:e≠k:=λu=>by subst u;simp[A]at h
 rw[decide_eq_decide];omega
theorem EY{es:Do}{k:Nat}(h:∀e,e∈es->k<=e):l5 es k=es:=List.filter_eq_self.2 λe q=>decide_eq_true (h e q)
theorem EZ:∀{es:Do}{k:Nat},qY es=true->es.contains k=true->l5 es k=k::l5 es (k+1)
 | [],k,_,h=>by simp at h
 |a::t,k,A,h=>by
  have V:qY t=true:=by
   cases t with
   |nil=>rfl
   |cons b t=>simp only[qY,ae6]at A;exact A.2
  have q:∀e,e∈t->a<e:=λe u=>by
   obtain⟨i,hi⟩:=aeI u;exact mW A 0 (i+1) a e zd rfl (by simpa using hi)
  by_cases U:a=k
  ·subst U;have h1:l5 t a=t:=EY λe u=>Nat.le_of_lt (q e u);have Y:l5 t (a+1)=t:=EY λe u=>q e u;rw[l5,afB, <- l5,h1,l5,afB, <- l5,Y,if_pos zk,if_neg zk]
  ·have H:t.contains k=true:=by
    simp only[List.contains_cons,afk,beq_iff_eq]at h
    rcases h with h|h
    ·exact absurd h.symm U
    ·exact h
   have W:=q k (by simpa using H);have IH:=EZ V H;rw[l5,afB, <- l5,IH,if_neg ahy,l5,l5,afB,if_neg ahy]
theorem LZ{es:Do}{k m:Nat}(H:∀A e,es[A]?=some e->(e<k↔A<m)):l5 es k=es.drop m:=by
 have Y:l5 es k=l5 (es.take m++es.drop m) k:=by rw[List.take_append_drop]
 rw[Y,l5,List.filter_append]
 have W:(es.take m).filter (λe=>decide (k<=e))=[]:=List.filter_eq_nil_iff.2 λe u=>by
  obtain⟨i,hi⟩:=aeI u;have q:=(aeu.1 hi).1;rw[List.getElem?_take_of_lt (by simp at q;omega)]at hi
  have:=(H i e hi).2 (by simp at q;omega)
  simp;omega
 have V:(es.drop m).filter (λe=>decide (k<=e))=es.drop m:=List.filter_eq_self.2 λe u=>by
  obtain⟨i,hi⟩:=aeI u;rw[ae9]at hi
  have: ¬e<k:=λU=>by have:=(H _ e hi).1 U;omega
  simp;omega
 rw[W,V,List.nil_append]
def dx(P:Program)(all:GE)(es:Do)(fs:NE):GE->Nat->AS->List AC->Option (Nat->AC->Prop)->(AS->Prop)->Prop
 | [],_,s,_,_,Q=>Q s
 |oo::rest,k,s,hist,pn,Q=>if es.contains k then(match oo.guard with
   |none=>zK P oo.op s (λr o'=>WN pn k o'∧dx P all es fs rest (k+1) (s.put oo.dst r o') (hist++[s.o]) pn Q)
   |some _=>False)else match o7 fs k with
   |some lo=>oo.guard=none∧dN P oo.op s (λr=>(∀o',o'∈hist.drop lo->dN P oo.op ⟨s.t,o',s.y⟩ (λr'=>r'=r))∧dx P all es fs rest (k+1) (s.put oo.dst r s.o) hist pn Q)
   |none=>match yz fs k with
    |some c=>oo.guard=none∧dN P oo.op s (λr=>dx P all es fs rest (k+1) (s.put oo.dst r s.o) hist (some λk' o'=>WN pn k' o'∧(if k'<c then dN P oo.op ⟨s.t,o',s.y⟩ (λr'=>r'=r)else True)) Q)
    |none=>fw P all oo s (λs'=>dx P all es fs rest (k+1) s' hist pn Q)
def YD(P:Program)(all:GE)(es:Do)(fs:NE):GE->Nat->AS->List AC->C5->List AC->AS->Prop
 | [],_,s,_,rs,os,sf=>rs=[]∧os=[]∧sf=s
 |oo::rest,k,s,hist,rs,os,sf=>∃r rs',rs=r::rs' ∧
   ((es.contains k=true∧oo.guard=none∧∃o' os',os=o'::os'∧zK P oo.op s (λr' o''=>r'=r∧o''=o')∧YD P all es fs rest (k+1) (s.put oo.dst r o') (hist++[s.o]) rs' os' sf) ∨
   (es.contains k=false∧(((oo.guard=none∨∃j want b,oo.guard=some (j,want)∧nN all s j=some (some b)∧(b==want)=true)∧dN P oo.op s (λr'=>r'=r)∧(∀lo,o7 fs k=some lo->∀o',o'∈hist.drop lo->dN P oo.op ⟨s.t,o',s.y⟩ (λr'=>r'=r))∧(o7 fs k=none->∀c,yz fs k=some c->∀(i e:Nat)o',(l5 es (k+1))[i]?=some e->e<c->os[i]?=some o'->dN P oo.op ⟨s.t,o',s.y⟩ (λr'=>r'=r))) ∨
    (o7 fs k=none∧yz fs k=none∧r=.v Go.undef∧∃j want g,oo.guard=some (j,want)∧nN all s j=some g∧(g=none∨∃b,g=some b∧(b==want)=false)))∧YD P all es fs rest (k+1) (s.put oo.dst r s.o) hist rs' os sf))
theorem iJ{all:GE}{es:Do}{fs:NE}(hrise:qY es=true):∀(rest:GE)(k:Nat)(s:AS)(q:List AC){pn:Option (Nat->AC->Prop)}{Q:AS->Prop},dx P all es fs rest k s q pn Q->∃rs os sf,YD P all es fs rest k s q rs os sf∧(∀(i e:Nat)o',(l5 es k)[i]?=some e->os[i]?=some o'->WN pn e o')∧Q sf
 | [],k,s,q,pn,Q,h=>⟨[],[],s,⟨rfl,rfl,rfl⟩,(λ_ _ _ _ h=>by simp at h),h⟩
 |oo::rest,k,s,q,pn,Q,h=>by
  simp only[dx]at h
  cases u:es.contains k
  ·rw[u]at h;simp only[afC,if_false]at h
   cases hf:o7 fs k with
   |some lo=>
    rw[hf]at h;obtain⟨V,h⟩:=h;obtain⟨r,⟨hh,Y⟩,W⟩:=qh h;obtain⟨rs,os,sf,U,H⟩:=iJ hrise rest (k+1) _ q Y;exact⟨r::rs,os,sf,⟨r,rs,rfl,.inr ⟨u,.inl ⟨.inl V,W,(λlo' hl=>by rw[hf]at hl;cases hl;exact hh),λhn=>by rw[hf]at hn;cases hn⟩,U⟩⟩,by rw[qp u];exact H⟩
   |none=>
   rw[hf]at h
   have hno:∀r lo,o7 fs k=some lo->∀o',o'∈q.drop lo->dN P oo.op ⟨s.t,o',s.y⟩ (λr'=>r'=r):=λr lo hl=>by rw[hf]at hl;cases hl
   simp only at h;cases A:yz fs k
   case some cc=>
    rw[A]at h;simp only at h;obtain⟨V,h⟩:=h;obtain⟨r,Y,W⟩:=qh h;obtain⟨rs,os,sf,U,h0,H⟩:=iJ hrise rest (k+1) _ q Y;exact⟨r::rs,os,sf,⟨r,rs,rfl,.inr ⟨u,.inl ⟨.inl V,W,hno r,λ_ c hc i e o' he' hlt' ho'=>by rw[A]at hc;cases hc;have:=(h0 i e o' he' ho').2;rw[if_pos hlt']at this;exact this⟩,U⟩⟩,λi e o' he' ho'=>(h0 i e o' (by rw[qp u]at he';exact he') ho').1,H⟩
   have hla:∀(r:AV)(os:List AC),o7 fs k=none->∀c,yz fs k=some c->∀(i e:Nat)o',(l5 es (k+1))[i]?=some e->e<c->os[i]?=some o'->dN P oo.op ⟨s.t,o',s.y⟩ (λr'=>r'=r):=λr os _ c h=>by rw[A]at h;cases h
   rw[A]at h;simp only at h;simp only[fw]at h
   split at h
   ·rename_i V;obtain⟨r,Y,W⟩:=qh h;obtain⟨rs,os,sf,U,H⟩:=iJ hrise rest (k+1) _ q Y;exact⟨r::rs,os,sf,⟨r,rs,rfl,.inr ⟨u,.inl ⟨.inl V,W,hno r,hla r _⟩,U⟩⟩,by rw[qp u];exact H⟩
   ·rename_i j want V;unfold Ae at h
    split at h
    ·rename_i b e
     cases hb:b==want
     ·rw[hb,Af]at h;obtain⟨rs,os,sf,U,H⟩:=iJ hrise rest (k+1) _ q h;exact⟨_::rs,os,sf,⟨_,rs,rfl,.inr ⟨u,.inr ⟨hf,A,rfl,j,want,_,V,e,.inr ⟨b,rfl,hb⟩⟩,U⟩⟩,by rw[qp u];exact H⟩
     ·rw[hb,D9]at h;obtain⟨r,Y,W⟩:=qh h;obtain⟨rs,os,sf,U,H⟩:=iJ hrise rest (k+1) _ q Y;exact⟨r::rs,os,sf,⟨r,rs,rfl,.inr ⟨u,.inl ⟨.inr ⟨j,want,b,V,e,hb⟩,W,hno r,hla r _⟩,U⟩⟩,by rw[qp u];exact H⟩
    ·rename_i e;obtain⟨rs,os,sf,U,H⟩:=iJ hrise rest (k+1) _ q h;exact⟨_::rs,os,sf,⟨_,rs,rfl,.inr ⟨u,.inr ⟨hf,A,rfl,j,want,_,V,e,.inl rfl⟩,U⟩⟩,by rw[qp u];exact H⟩
    ·exact h.elim
  ·rw[u]at h;simp only[if_true]at h
   split at h
   ·rename_i V;obtain⟨r,o',⟨hpo,Y⟩,W⟩:=Sx h;obtain⟨rs,os,sf,U,h0,H⟩:=iJ hrise rest (k+1) _ _ Y
    exact⟨r::rs,o'::os,sf,⟨r,rs,rfl,.inl ⟨u,V,o',os,rfl,W,U⟩⟩,λi e o'' hi ho=>by
     rw[EZ hrise u]at hi
     cases i with
     |zero=>simp only[afD,Option.some.injEq]at hi ho;subst hi;subst ho;exact hpo
     |succ i=>rw[afE]at hi ho;exact h0 i e o'' hi ho,H⟩
   ·exact h.elim
def TM(ops:Array Oper)(es:Do)(fs:NE)(j:Nat):Bool:=match yz fs j with
 |some c=> !es.contains j&&(o7 fs j).isNone&&es.all (λe=>decide (j<=e)||s7 ops ops.size j e)&&es.all (λe=>decide (e<c)||s7 ops ops.size e j)
 |none=>false
def uO(ops:Array Oper)(es:Do)(fs:NE):Bool:=tN ops&&qY es&&es.all (λe=>decide (e<ops.size))&&(List.range ops.size).all (λj=>(match ops[j]? with|some oo=>Qe oo.op|none=>true) && !es.contains j||Tu ops es j||O6 ops es fs j||TM ops es fs j)
theorem TN{ops:Array Oper}{es:Do}{fs:NE}{j:Nat}(h:TM ops es fs j=true):∃c,yz fs j=some c∧o7 fs j=none∧es.contains j=false∧(∀e,e∈es->j<=e∨s7 ops ops.size j e=true)∧(∀e,e∈es->c<=e->s7 ops ops.size e j=true):=by
 unfold TM at h
 split at h
 ·rename_i c A;simp only[ae6,afA,afh,afk,decide_eq_true_eq]at h;refine⟨c,A,by have:=h.1.1.2;simpa using this,h.1.1.1,h.1.2,λe u hle=>?_⟩
  rcases h.2 e u with q|q
  ·omega
  ·exact q
 ·cases h
theorem GG.SN(g:GG D nu0 o0 w0 l es O){k m:Nat}(Y:∀e,e∈es->k<=e∨s7 l.toArray l.toArray.size k e=true)(hd:∀i,bb l.toArray k i=true->g.done i=true)(V:∀A e,es[A]?=some e->(e<k↔A<m))(U:m<=es.length):m<=g.c:=by
 rcases afz m with q|q
 ·omega
 ·have u:m-1<es.length:=zd
  have H:es[m-1]?=some es[m-1]:=aeC u;have W:=(V _ _ H).2 zd
  rcases Y _ (afy u)with h|h
  ·omega
  ·have:=(g.ef _ _ H).1 (uU g h hd)
   omega
theorem Jj{l:GE}{es:Do}{fs:NE}(W:∀e,e∈es->e<l.length)(hrise:qY es=true):∀(rest:GE)(k m:Nat)(s:AS)(H:List AC)(rs:C5)(os:List AC)(sf:AS),l.drop k=rest->k<=l.length->YD P l es fs rest k s H rs os sf->m<=es.length ->
  (∀U e,es[U]?=some e->(e<k↔U<m))->os.length+m=es.length
 | [],k,m,s,H,rs,os,sf,hl,hk,Y,hm,A=>by
  obtain⟨rfl,rfl,rfl⟩:=Y
  have hkl:k=l.length:=by have:=congrArg List.length hl;simp at this;omega
  rcases aes m es.length with q|q
  ·have he:es[m]?=some es[m]:=aeC q
   have:=(A m _ he).1 (by rw[hkl];exact W _ (afy q))
   omega
  ·simp;omega
 |oo::rest,k,m,s,H,rs,os,sf,hl,hk,Y,hm,A=>by
  have hlt:k<l.length:=by have:=congrArg List.length hl;simp at this;omega
  have hl':l.drop (k+1)=rest:=by have:=congrArg List.tail hl;simpa using this
  obtain⟨r,rs',rfl,Y⟩:=Y
  rcases Y with⟨he,hg,o',os',rfl,hd,V⟩|⟨he,hstep,V⟩
  ·have hkm:k∈es:=by simpa using he
   obtain⟨mk,u⟩:=aeI hkm
   have hmke:mk=m:=by
    have h1: ¬mk<m:=λhh=>by have:=(A mk k u).2 hh;omega
    rcases aes m mk with q|q
    ·have hlt2:m<es.length:=by have:=(aeu.1 u).1;omega
     have hem:es[m]?=some es[m]:=aeC hlt2;have hlt3:=mW hrise m mk _ _ q hem u
     have:=(A m _ hem).1 hlt3
     omega
    ·omega
   subst hmke;have hmlt:=(aeu.1 u).1
   have:=Jj W hrise rest (k+1) (mk+1) _ _ _ _ _ hl' hlt V zd (λU e h=>by
    by_cases hek:e=k
    ·subst hek
     have:U=mk:=(afx (aeu.1 h).1 (mj hrise)).1 (h.trans u.symm)
     omega
    ·have:=A U e h
     have hne:U≠mk:=λhh=>by subst hh;rw[u]at h;cases h;exact hek rfl
     omega)
   simp only[List.length_cons];omega
  ·exact Jj W hrise rest (k+1) m _ _ _ _ _ hl' hlt V hm (λU e h=>by
    have hne:e≠k:=λhh=>by
     subst hh
     have:=aeQ h
     simp[this]at he
    rw[<-A U e h];omega)
theorem py{f:Fr}{fs:NE}(hB:uO l.toArray es fs=true){s sf:AS}{a:Act}{w0:World}{rs:C5}{os:List AC}{R:Exit->Act->World->Prop}{g0:GG D nu s.o w0 l es (λc=>(s.o::os).getD c [])}(hs:RS f D nu s a w0)
  (hR:∀a' w' nu',cf nu s.o w0 nu' sf.o w'->sf.y=s.y->RS f D nu' sf a' w'->R .normal a' w') :
  ∀(rest:GE)(k m:Nat)(sk:AS)(Y:List AC)(V rs2:C5)(os2:List AC)(A:(Nat->Value)->Act),l.drop k=rest->YD P l es fs rest k sk Y rs2 os2 sf->(s.o::os).take m=Y->rs=V++rs2->Sj l s a k sk V A->(s.o::os).drop m=sk.o::os2 ->
   m<=es.length->(∀m' e,es[m']?=some e->(e<k↔m'<m))->k<=l.length ->
   MG (N:=eu D nu s.o w0 l es (λc=>(s.o::os).getD c [])) P l.toArray (rs.mapIdx (λk r=>rb D nu s.o w0 l es (λc=>(s.o::os).getD c []) k r)) g0 (R .normal) rest k A
 | [],k,m,sk,Y,V,rs2,os2,A,hl,ht,hhi,hrs,hI,hO,hml,W,hk=>by
  obtain⟨rfl,rfl,rfl⟩:=ht;intro x g hE hD
  have hkl:k=l.length:=by have:=congrArg List.length hl;simp at this;omega
  have hspec:∀i r,V[i]?=some r->(rb D nu s.o w0 l es (λc=>(s.o::os).getD c []) i r).p (x i) g:=λi r hr=>by
   have hik:i<k:=by rw[<-hI.len];exact(aeu.1 hr).1
   have:=hD i hik
   rw[hrs,List.append_nil,SL hr]at this;exact this
  have hdone:∀i,i<k->g.done i=true:=λi hi=>by
   have H:i<V.length:=by rw[hI.len];exact hi
   exact(hspec i _ (aeC H)).2
  have hsz:∀e,e∈es->e<l.length:=by
   simp only[uO,ae6,afh,decide_eq_true_eq,afj]at hB;exact hB.1.2
  have hm:m=es.length:=by
   rcases aes m es.length with q|q
   ·have he:es[m]?=some es[m]:=aeC q
    have:=(W m _ he).1 (by rw[hkl];exact hsz _ (afy q))
    omega
   ·omega
  have hc:g.c=m:=by
   have h1:=g.le
   rcases afz m with q|q
   ·omega
   ·have H:m-1<es.length:=zd
    have he:es[m-1]?=some es[m-1]:=aeC H
    have:=(g.ef _ _ he).1 (hdone _ (by rw[hkl];exact hsz _ (afy H)))
    omega
  have hOm:(s.o::os).getD m []=sf.o:=by
   have:=congrArg (λl=>l[0]?) hO
   simp only[ae9,Nat.add_zero,afD]at this;rw[ae2,this];rfl
  have hro:=g.ro;have hmo:=g.mono;simp only[hc,hOm]at hro hmo;refine hR (A x) g.w g.nu hmo hI.y ⟨hro,⟨hI.size x,λt c v h1 h2=>?_⟩,by rw[hI.mb x];exact hs.mb.mono hs.ro hmo⟩
  rcases hI.val x t c v h1 h2 with⟨h3,h4⟩|⟨i,q1,q2,q3,q4⟩
  ·exact(hs.tm.at' t c v h3 h4).mono hmo (λ_ _ h=>h)
  ·have:=(hspec i c q3).1
   simp only[hc,hOm]at this;rw[q4];exact this
 |oo::rest,k,m,sk,Y,V,rs2,os2,A,hl,ht,hhi,hrs,hI,hO,hml,W,hk=>by
  have hB':=hB;simp only[uO,ae6,afh,decide_eq_true_eq,afj,afi,afk]at hB';obtain⟨⟨⟨hrel,hrise⟩,hszs⟩,hfix⟩:=hB'
  have H:k<l.length:=by have:=congrArg List.length hl;simp at this;omega
  have hok:l[k]?=some oo:=by have:=congrArg (λm=>m[0]?) hl;simpa using this
  have hl':l.drop (k+1)=rest:=by have:=congrArg List.tail hl;simpa using this
  have hOm:(s.o::os).getD m []=sk.o:=by
   have:=congrArg (λl=>l[0]?) hO
   simp only[ae9,Nat.add_zero,afD]at this;rw[ae2,this];rfl
  obtain⟨r,rs',rfl,ht⟩:=ht
  have hrs':rs=(V++[r])++rs':=by rw[hrs];simp
  have hspecK:Ch (rs.mapIdx (λk r=>rb D nu s.o w0 l es (λc=>(s.o::os).getD c []) k r)) k=rb D nu s.o w0 l es (λc=>(s.o::os).getD c []) k r:=by
   rw[hrs];exact Ho (by rw[aeK (by rw[hI.len];exact Nat.le_refl _),hI.len,Nat.sub_self];rfl)
  have hspec:∀(x:Nat->Value)(g:GG D nu s.o w0 l es (λc=>(s.o::os).getD c []))i rr,(Ch (rs.mapIdx (λk r=>rb D nu s.o w0 l es (λc=>(s.o::os).getD c []) k r)) i).p (x i) g->V[i]?=some rr->RA D g.nu ((s.o::os).getD g.c []) g.w rr (x i)∧g.done i=true:=λx g i rr h hr=>by
   rw[hrs,Ho (by rw[List.getElem?_append_left (aeu.1 hr).1];exact hr)]at h;exact h
  have hdep:∀i,bb l.toArray k i=true->i<k:=λi hi=>by
   simp only[tN,ae6,afh,afi,afj]at hrel
   rcases Nat.lt_trichotomy i k with h|h|h
   ·exact h
   ·subst h
    have:=(hrel.2 i H).2.1
    rw[hi]at this;cases this
   ·exfalso;simp only[bb,aeD,hok,Array.any_eq_true',ae6,beq_iff_eq]at hi;obtain⟨e,he,hb,rfl⟩:=hi;have hfar:=(hrel.2 k H).2.2;simp only[LV,aeD,hok,Array.all_eq_true_iff_forall_mem]at hfar
    have hel:e.on<l.length:=by simpa using hfar e he
    have:=(hrel.2 e.on hel).1 k h
    simp only[Kv,aeD,hok,aeC hel,ae6,afA]at this;have h2:=this.1.1.2;simp only[bb,aeD,hok]at h2
    have:oo.after.any (λe_1=>Region.binds .any e_1&&e_1.on==e.on)=true:=by
     simp only[Array.any_eq_true',ae6,beq_iff_eq];exact⟨e,he,hb,rfl⟩
    rw[this]at h2;cases h2
  have hdoneD:∀(x:Nat->Value)(g:GG D nu s.o w0 l es (λc=>(s.o::os).getD c [])),(∀i,bb l.toArray k i=true->(Ch (rs.mapIdx (λk r=>rb D nu s.o w0 l es (λc=>(s.o::os).getD c []) k r)) i).p (x i) g)->∀i,bb l.toArray k i=true->g.done i=true:=λx g hD i hi=>by
   have H:i<V.length:=by rw[hI.len];exact hdep i hi
   exact(hspec x g i _ (hD i hi) (aeC H)).2

  have hlook:∀(x:Nat->Value)(g:GG D nu s.o w0 l es (λc=>(s.o::os).getD c [])),(∀i,bb l.toArray k i=true->(Ch (rs.mapIdx (λk r=>rb D nu s.o w0 l es (λc=>(s.o::os).getD c []) k r)) i).p (x i) g)->∀(t:Nat)c v,t∈oo.looksAt l.toArray->sk.t[t]?=some c->(A x).tmps[t]?=some v->RA D g.nu ((s.o::os).getD g.c []) g.w c v:=by
   intro x g hD t c v ht h1 h2
   rcases hI.val x t c v h1 h2 with⟨h3,h4⟩|⟨i,q1,⟨oi,q2,q5⟩,q3,q4⟩
   ·exact(hs.tm.at' t c v h3 h4).mono g.mono (λ_ _ h=>h)
   ·rcases Ih hrel q1 q2 hok with h5|h5
    ·have:=(hspec x g i c (hD i h5) q3).1
     rw[q4];exact this
    ·exact absurd ht (h5 t q5)
  have hevs:∀(x:Nat->Value)(g:GG D nu s.o w0 l es (λc=>(s.o::os).getD c [])),(∀i,bb l.toArray k i=true->(Ch (rs.mapIdx (λk r=>rb D nu s.o w0 l es (λc=>(s.o::os).getD c []) k r)) i).p (x i) g)->Si D g.nu ((s.o::os).getD g.c []) g.w sk.ev (A x).eval oo.op:=by
   intro x g hD y hy
   cases y with
   |tmp t=>
    simp only[AS.ev,Act.eval]
    rcases aes t sk.t.length with H|hge
    ·have e1:sk.t[t]?=some sk.t[t]:=aeC H
     have hlt':t<(A x).tmps.size:=by rw[<-hI.size x];exact H
     have hx:(A x).tmps[t]?=some (A x).tmps[t]:=Array.getElem?_eq_getElem hlt';rw[getD_some e1]
     have:(A x).tmps.getD t Go.undef=(A x).tmps[t]:=by simp[Array.getD,hlt']
     rw[this];exact hlook x g hD t _ _ (List.mem_append_left _ (List.mem_filterMap.2 ⟨.tmp t,hy,rfl⟩)) e1 hx
    ·have e0:sk.t.getD t .undef=.undef:=by rw[ae2,List.getElem?_eq_none hge];rfl
     rw[e0];exact .undef _
   |const v=>exact .v v
   |global gi=>exact(wZ hs.ro sk gi).mono g.mono (λ_ _ h=>h)
   |func f=>exact .fn f [] [] #[] #[] rfl rfl (λi c x h=>by simp at h) (λi c x h=>by simp at h)
  have hcont:∀(x:Nat->Value),es.contains k=false->∀m' e,es[m']?=some e->(e<k+1↔m'<m):=λ_ he m' e h=>by
   have hne:e≠k:=λhh=>by
    subst hh
    have:=aeQ h
    simp[this]at he
   rw[<-W m' e h];omega
  rcases ht with⟨he,hg,o',os',rfl,hd,htr⟩|⟨he,hstep,htr⟩
  ·
   have hkm:k∈es:=by simpa using he
   obtain⟨mk,hmk⟩:=aeI hkm
   have hmke:mk=m:=by
    have h1: ¬mk<m:=λhh=>by have:=(W mk k hmk).2 hh;omega
    rcases aes m mk with q|q
    ·have hlt2:m<es.length:=by have:=(aeu.1 hmk).1;omega
     have hem:es[m]?=some es[m]:=aeC hlt2;have hlt3:=mW hrise m mk _ _ q hem hmk
     have:=(W m _ hem).1 hlt3
     omega
    ·omega
   subst hmke
   have hOm1:(s.o::os).getD (mk+1) []=o':=by
    have h1:=congrArg (λ(l:List AC)=>l[1]?) hO;simp only[ae9]at h1;rw[ae2,h1];rfl
   refine⟨λx g hE hD hp=>?_,?_⟩
   ·have hdd:=hdoneD x g hD
    have hfx:Tu l.toArray es k=true:=by
     rcases hfix k H with((h|h)|h)|h
     ·have:=h.2;simp[hkm]at this
     ·exact h
     ·exfalso;simp only[O6]at h
      split at h
      ·simp only[ae6,afh,afk,decide_eq_true_eq]at h
       rcases h.2 k hkm with q|q
       ·omega
       ·simp at q
      ·cases h
     ·exfalso;simp only[TM]at h
      split at h
      ·simp only[ae6]at h
       have:=h.1.1.1;simp[hkm]at this
      ·cases h
    have hc:g.c=mk:=g.Et hfx hdd hp W hml;have hev:=hevs x g hD;have hro:=g.ro;simp only[hc,hOm]at hev hro;refine .inl ⟨by simp[Region.wanted,hg],?_⟩;rw[hspecK]
    have hgo:∀(v:Value)(w':World)(nu':EQ),cf g.nu sk.o g.w nu' o' w'->RO D nu' o' w'->RA D nu' o' w' r v ->
      ∃g':GG D nu s.o w0 l es (λc=>(s.o::os).getD c []),(eu D nu s.o w0 l es (λc=>(s.o::os).getD c [])).wd g'=w'∧(eu D nu s.o w0 l es (λc=>(s.o::os).getD c [])).R g g'∧(∀i,i≠k->(eu D nu s.o w0 l es (λc=>(s.o::os).getD c [])).pre i g->(eu D nu s.o w0 l es (λc=>(s.o::os).getD c [])).pre i g')∧(rb D nu s.o w0 l es (λc=>(s.o::os).getD c []) k r).p v g':=by
     intro v w' nu' m1 m2 m3
     have hm':cf g.nu ((s.o::os).getD g.c []) g.w nu' ((s.o::os).getD (g.c+1) []) w':=by rw[hc,hOm,hOm1];exact m1
     have hr':RO D nu' ((s.o::os).getD (g.c+1) []) w':=by rw[hc,hOm1];exact m2
     have hek:es[g.c]?=some k:=by rw[hc];exact hmk
     have hR2:=g.YU k w' nu' hm' hr' hdd hek (mj hrise)
     refine⟨g.eff k w' nu' hm' hr' hdd hek (mj hrise),rfl,hR2.1,hR2.2,?_,?_⟩
     ·show RA D nu' ((s.o::os).getD (g.c+1) []) w' r v;rw[hc,hOm1];exact m3
     ·show(if k=k then true else g.done k)=true;simp
    rcases Li (P:=P) (rho:=(A x).eval) hro hev hd with⟨v,w',nu',h1,m1,m2,m3⟩|⟨gf,vargs,h1,h2⟩
    ·rcases h1 with h1|⟨h1,rfl⟩
     ·have e1:(execOp (A x).eval oo).run P ((eu D nu s.o w0 l es (λc=>(s.o::os).getD c [])).wd g)=.ok (.value v) w':=h1;rw[e1];exact hgo v w' nu' m1 m2 m3
     ·have e1:(execOp (A x).eval oo).run P ((eu D nu s.o w0 l es (λc=>(s.o::os).getD c [])).wd g)=.ok .skip w':=h1;rw[e1];exact hgo _ w' nu' m1 m2 m3
    ·have e1:(execOp (A x).eval oo).run P ((eu D nu s.o w0 l es (λc=>(s.o::os).getD c [])).wd g)=.ok (.enter gf vargs) g.w:=h1;rw[e1];refine h2.mono ?_;rintro e w' ⟨v,nu',rfl,m1,m2,m3⟩;obtain⟨g',k1,k2,k3,k4⟩:=hgo v w' nu' m1 m2 m3;exact⟨v,g',rfl,k1,k2,k3,k4⟩
   ·refine py hB hs hR rest (k+1) (mk+1) (sk.put oo.dst r o') (Y++[sk.o]) (V++[r]) rs' os' _ hl' htr (by rw[List.take_succ_eq_append_getElem (by have:=congrArg List.length hO;simp at this⊢; omega),hhi];congr 1;have:=hOm;rw[ae2,aeC (by have:=congrArg List.length hO;simp at this⊢; omega)]at this;simpa using this) hrs' (hI.step hok r o') ?_ ((aeu.1 hmk).1) (λm' e h=>?_) H
    ·have:=congrArg List.tail hO
     rw[List.tail_drop]at this;exact this
    ·by_cases hek:e=k
     ·subst hek
      have:m'=mk:=(afx (aeu.1 h).1 (mj hrise)).1 (h.trans hmk.symm)
      omega
     ·have:=W m' e h
      have hne:m'≠mk:=λhh=>by subst hh;rw[hmk]at h;cases h;exact hek rfl
      omega
  ·refine⟨λx g hE hD hp=>?_,?_⟩
   ·have hdd:=hdoneD x g hD;rw[hspecK]
    have hnext:∀(v:Value)(w':World),RA D g.nu ((s.o::os).getD g.c []) w' r v->Below g.w.heap.size g.w w' ->
      ∃g':GG D nu s.o w0 l es (λc=>(s.o::os).getD c []),(eu D nu s.o w0 l es (λc=>(s.o::os).getD c [])).wd g'=w'∧(eu D nu s.o w0 l es (λc=>(s.o::os).getD c [])).R g g'∧(∀i,i≠k->(eu D nu s.o w0 l es (λc=>(s.o::os).getD c [])).pre i g->(eu D nu s.o w0 l es (λc=>(s.o::os).getD c [])).pre i g')∧(rb D nu s.o w0 l es (λc=>(s.o::os).getD c []) k r).p v g':=by
     intro v w' hr hb;have hR2:=g.Wx k w' hb hdd he;refine⟨g.next k w' hb hdd he,rfl,hR2.1,hR2.2,hr,?_⟩;show(if k=k then true else g.done k)=true;simp
    have hyv:∀j want,oo.guard=some (j,want)->∀gg,nN l sk j=some gg->yielded l.toArray (A x).tmps j=gg:=λj want hg gg hgv=>
     jK (s:=⟨sk.t,(s.o::os).getD g.c [],sk.y⟩) (D:=D) (nu:=g.nu) (w:=g.w) (λd c v hd h1 h2=>by
      refine hlook x g hD d c v ?_ h1 h2;obtain⟨og,q1,q2⟩:=hd;refine List.mem_append_right _ ?_;simp only[hg,aeD,q1,Option.bind_some,q2]
      simp) (hI.size x) (show nN l ⟨sk.t,_,sk.y⟩ j=some gg from hgv)
    rcases hstep with⟨hw,hd,hfl,hlat⟩|⟨_,_,rfl,j,want,gg,hg,hgv,hno⟩
    ·have hwant:Region.wanted oo (yielded l.toArray (A x).tmps)=true:=by
      rcases hw with hg|⟨j,want,b,hg,hgv,hb⟩
      ·simp[Region.wanted,hg]
      ·simp only[Region.wanted,hg,hyv j want hg _ hgv];simpa using hb
     refine .inl ⟨hwant,?_⟩
     have hd':dN P oo.op ⟨sk.t,(s.o::os).getD g.c [],sk.y⟩ (λr'=>r'=r):=by
      rcases hfix k H with((h|h)|h)|h
      ·rw[show l.toArray[k]?=some oo by simpa using hok]at h;exact Lj (by simpa using h.1) (show dN P oo.op ⟨sk.t,sk.o,sk.y⟩ (λr'=>r'=r)from hd)
      ·have hc:g.c=m:=g.Et h hdd hp W hml;rw[hc,hOm];exact hd
      ·have hlo:∃lo,o7 fs k=some lo:=by
        simp only[O6]at h
        split at h
        ·exact⟨_, ‹_›⟩
        ·cases h
       obtain⟨lo,hlo⟩:=hlo;obtain⟨c1,c2⟩:=g.Oi h hlo hdd hp W
       rcases Nat.eq_or_lt_of_le c2 with hc|hc
       ·rw[hc,hOm];exact hd
       ·have hgl:g.c<(s.o::os).length:=by have:=congrArg List.length hO;simp at this⊢; omega
        refine hfl lo hlo _ ?_;rw[<-hhi,ae2,aeC hgl];refine List.mem_drop_iff_getElem.2 ⟨g.c-lo,by simp at hgl⊢; omega,?_⟩;rw[List.getElem_take];simp only[Option.getD_some]
        congr 1
        omega
      ·obtain⟨cc,hcc,q1,q2,q3,q4⟩:=TN h;have hc:=g.SN q3 hdd W hml
       rcases Nat.eq_or_lt_of_le hc with hc|hc
       ·rw[<-hc,hOm];exact hd
       ·have hle:=g.le;have hln:=Jj hszs hrise rest (k+1) m _ _ _ _ _ hl' zd htr hml (hcont (λ_=>Go.undef) he);have e1:=congrArg (λ(l:List AC)=>l[g.c-m]?) hO;obtain⟨d,hd1⟩:∃d,g.c-m=d+1:=⟨g.c-m-1,zd⟩;simp only[ae9,show m+(g.c-m)=g.c by omega]at e1;rw[hd1,afE,aeC (l:=os2) zd]at e1;rw[ae2,e1]
        have hlt3:m+d<es.length:=zd
        have hed:es[m+d]?=some es[m+d]:=aeC hlt3
        refine hlat q1 cc hcc d es[m+d] _ ?_ ?_ (aeC (l:=os2) zd)
        ·rw[LZ (hcont (λ_=>Go.undef) he),ae9];exact hed
        ·rcases aes es[m+d] cc with q|q
         ·exact q
         ·exfalso;have h5:=mM g _ _ _ (q4 _ (afy hlt3) q) ((g.ef _ _ hed).2 zd);have h6:g.done k=false:=hp;rw[h6]at h5;cases h5
     obtain⟨r',rfl,U⟩:=lk (P:=P) (s:=⟨sk.t,(s.o::os).getD g.c [],sk.y⟩) (rho:=(A x).eval) g.ro (hevs x g hD) hd';have e0:(execOp (A x).eval oo).run P ((eu D nu s.o w0 l es (λc=>(s.o::os).getD c [])).wd g)=(execOp (A x).eval oo).run P g.w:=rfl;rw[e0];generalize(execOp (A x).eval oo).run P g.w=res at U
     cases res with
     |halt _ _=>exact U.elim
     |ok n w'=>
      cases n<;>first|exact U.elim|skip
      case value u=>exact hnext u w' U.1.2 U.2
      case skip=>exact hnext _ w' U.1.2 U.2
      case enter gf vargs=>
       refine Calls.mono U ?_;rintro e w'' ⟨v,rfl,hv,hb⟩;obtain⟨g',k1,k2,k3,k4⟩:=hnext v w'' hv.2 hb;exact⟨v,g',rfl,k1,k2,k3,k4⟩
    ·refine .inr ⟨?_,?_⟩
     ·simp only[Region.wanted,hg,hyv j want hg _ hgv]
      rcases hno with rfl|⟨b,rfl,hb⟩
      ·rfl
      ·simpa using hb
     ·obtain⟨g',k1,k2,k3,k4⟩:=hnext Go.undef g.w (.v _) (.refl _ _);exact⟨g',k1,k2,k3,k4⟩
   ·have hO':(s.o::os).drop m=(sk.put oo.dst r s.o).o::os2->True:=λ_=>trivial;refine py hB hs hR rest (k+1) m (sk.put oo.dst r sk.o) Y (V++[r]) rs' os2 _ hl' ?_ hhi hrs' (hI.step hok r sk.o) hO hml (hcont (λ_=>Go.undef) he) H;exact htr
theorem bE{n0 id:Nat}{s:AS}{l:GE}{Q:bd->AS->Prop}(es:Do)(fs:NE)(H:uO l.toArray es fs=true)(hC:dP l.toArray=true)(h:dx P l es fs l 0 s [] none (Q .normal)):cD P n0 (.region id l.toArray true) s Q:=by
 refine .inr (λf m D nu a w hZr hn hm W Y R hO hR=>?_);obtain⟨rs,os,sf,V,_,hq⟩:=iJ (by simp only[uO,ae6]at H;exact H.1.1.2) l 0 s [] h;have q:=W.drew
 have u:tN l.toArray=true:=by
  simp only[uO,ae6]at H;exact H.1.1.1
 let g0:GG D nu s.o w.drew l es (λc=>(s.o::os).getD c []):=⟨w.drew,nu,λ_=>false,0,q.ro,.refl _ _ _,(λ_ _ h=>by cases h),(λ_ _ _=>zk),Nat.zero_le _⟩
 have A:=py (P:=P) (R:=R) (rs:=rs) (g0:=g0) H q (λa' w' nu' h1 hy U=>hR .normal D f.Z sf a' w' nu' (by rw[hy];exact m.own hm W.ro ((aG (dE w)).trans h1) U.ro) U hq) l 0 0 s [] [] rs os (λ_=>a) zk V zk zk ⟨rfl,rfl,λ_=>rfl,λ_=>W.tm.len,λx t c v h1 U=> .inl ⟨h1,U⟩⟩ zk (Nat.zero_le _) (λm' e _=>zk) (Nat.zero_le _);exact ug Y hC hO (jG (N:=eu D nu s.o w.drew l es (λc=>(s.o::os).getD c [])) _ u g0 rfl (λ_=>rfl) A)
theorem au{all rest:GE}{es:Do}{fs:NE}{oo:Oper}{k:Nat}{s:AS}{q:List AC}{pn:Option (Nat->AC->Prop)}{Q:AS->Prop}(u:(es.contains k||(o7 fs k).isSome||(yz fs k).isSome)=false)(h:∀K:AS->Prop,(∀s',dx P all es fs rest (k+1) s' q pn Q->K s')->fw P all oo s K):dx P all es fs (oo::rest) k s q pn Q:=by
 simp only[Bool.or_eq_false_iff]at u;simp only[dx,u.1.1,afC,if_false]
 cases A:o7 fs k with
 |some lo=>rw[A]at u;simp at u
 |none=>
  have:yz fs k=none:=by have:=u.2;simpa using this
  rw[this];exact h _ (λ_ h=>h)
theorem ay{all rest:GE}{es:Do}{fs:NE}{dst:Option Tmp}{op:Op}{ty:TypeId}{pos:String}{aft:Array Edge}{k:Nat}{s:AS}{q:List AC}{Q:AS->Prop}(u:es.contains k=true)(h:∀K:AS->Prop,(∀s',dx P all es fs rest (k+1) s' (q++[s.o]) none Q->K s')->zK P op s (λr o'=>K (s.put dst r o'))):dx P all es fs (⟨dst,op,ty,pos,aft,none⟩ ::rest) k s q none Q:=by
 simp only[dx,u,if_true,WN,true_and];exact h _ (λ_ h=>h)
theorem aE{all rest:GE}{es:Do}{fs:NE}{dst:Option Tmp}{op:Op}{ty:TypeId}{pos:String}{aft:Array Edge}{k:Nat}{s:AS}{q:List AC}{p:Nat->AC->Prop}{Q:AS->Prop}(u:es.contains k=true)(h:∀K:AS->Prop,(∀s',dx P all es fs rest (k+1) s' (q++[s.o]) (some p) Q->K s')->zK P op s (λr o'=>p k o'∧K (s.put dst r o'))):dx P all es fs (⟨dst,op,ty,pos,aft,none⟩ ::rest) k s q (some p) Q:=by
 simp only[dx,u,if_true,WN];exact h _ (λ_ h=>h)
theorem aW{all rest:GE}{es:Do}{fs:NE}{dst:Option Tmp}{op:Op}{ty:TypeId}{pos:String}{aft:Array Edge}{k lo:Nat}{s:AS}{q:List AC}{pn:Option (Nat->AC->Prop)}{Q:AS->Prop}(A:(if es.contains k then none else o7 fs k)=some lo)(h:∀K:AS->Prop,(∀s',dx P all es fs rest (k+1) s' q pn Q->K s')->dN P op s (λr=>(∀o',o'∈q.drop lo->dN P op ⟨s.t,o',s.y⟩ (λH=>H=r))∧K (s.put dst r s.o))):dx P all es fs (⟨dst,op,ty,pos,aft,none⟩ ::rest) k s q pn Q:=by
 have u:es.contains k=false:=by cases u:es.contains k<;>simp_all
 simp only[u,afC,if_false]at A;simp only[dx,u,afC,if_false,A];exact⟨trivial,h _ (λ_ h=>h)⟩
theorem aP{all rest:GE}{es:Do}{fs:NE}{dst:Option Tmp}{op:Op}{ty:TypeId}{pos:String}{aft:Array Edge}{k c:Nat}{s:AS}{q:List AC}{pn:Option (Nat->AC->Prop)}{Q:AS->Prop}(u:(!es.contains k&&(o7 fs k).isNone)=true)(V:yz fs k=some c)(h:dN P op s (λr=>dx P all es fs rest (k+1) (s.put dst r s.o) q (some λA o'=>WN pn A o'∧(if A<c then dN P op ⟨s.t,o',s.y⟩ (λH=>H=r)else True)) Q)):dx P all es fs (⟨dst,op,ty,pos,aft,none⟩ ::rest) k s q pn Q:=by
 simp only[ae6,afA]at u;simp only[dx,u.1,afC,if_false]
 cases U:o7 fs k with
 |some lo=>rw[U]at u;simp at u
 |none=>rw[V];exact⟨trivial,h⟩
theorem Hj{all:GE}{es:Do}{fs:NE}{k:Nat}{s:AS}{q:List AC}{pn:Option (Nat->AC->Prop)}{Q:AS->Prop}(h:Q s):dx P all es fs [] k s q pn Q:=h
instance {all:GE}{es:Do}{fs:NE}{k:Nat}{s:AS}{hist:List AC}{pn:Option (Nat->AC->Prop)}{Q:AS->Prop}:bG (dx P all es fs [] k s hist pn Q) (Q s):=⟨Hj⟩
end
attribute [go_sem] WN zK Sc List.forall_mem_cons List.not_mem_nil false_implies implies_true
structure gQ(q:Prop):Prop where h:q
structure gI(i:Nat):Prop
theorem gR{P:Program}{n0 i:Nat}{ops:Array Oper}{d:Bool}{s:AS}{Q:bd->AS->Prop}(_:gI i)(h:cD P n0 (.region i ops d) s Q):cD P n0 (.region i ops d) s Q:=h
theorem ae{p q:Prop}(h:q)(f:gQ q->p:=by intro h;(repeat(first|(with_reducible first|refine bG.up ?_|refineλ(K:AK)hK=>?_|refine wK ?_|refine wF ?_|refine au zs ?_|refine ay zs ?_|(refine hK _ ?_;clear hK K))|simp only[go_sem]|with_reducible refine wA ?_|(refine aW rfl ?_)|(refine aP rfl rfl ?_)|(refine aE rfl ?_)|clear hK K));(iterate 8 (try revert K));exact h.1):p:=f ⟨h⟩
theorem sY{p:Prop}(f:p:=by(repeat(first|(with_reducible first|refine bG.up ?_|refineλ(K:AK)hK=>?_|refine wK ?_|refine wF ?_|refine au zs ?_|refine ay zs ?_|(refine hK _ ?_;clear hK K))|simp only[go_sem]|with_reducible refine wA ?_|(refine aW rfl ?_)|(refine aP rfl rfl ?_)|(refine aE rfl ?_)|clear hK K))<;>fail):p:=f
theorem ak{p q e0:Prop}(a0:e0)(h:q)(f:gQ q->e0->p:=by intro h a0;(repeat(first|(with_reducible first|refine bG.up ?_|refineλ(K:AK)hK=>?_|refine wK ?_|refine wF ?_|refine au zs ?_|refine ay zs ?_|(refine hK _ ?_;clear hK K))|simp only[go_sem,a0]|with_reducible refine wA ?_|(refine aW rfl ?_)|(refine aP rfl rfl ?_)|(refine aE rfl ?_)|clear hK K));(iterate 8 (try revert K));exact h.1):p:=f ⟨h⟩ a0
theorem vT{p e0:Prop}(a0:e0)(f:e0->p:=by intro a0;(repeat(first|(with_reducible first|refine bG.up ?_|refineλ(K:AK)hK=>?_|refine wK ?_|refine wF ?_|refine au zs ?_|refine ay zs ?_|(refine hK _ ?_;clear hK K))|simp only[go_sem,a0]|with_reducible refine wA ?_|(refine aW rfl ?_)|(refine aP rfl rfl ?_)|(refine aE rfl ?_)|clear hK K))<;>fail):p:=f a0
theorem fc{p q e0 A:Prop}(a0:e0)(u:A)(h:q)(f:gQ q->e0->A->p:=by intro h a0 u;(repeat(first|(with_reducible first|refine bG.up ?_|refineλ(K:AK)hK=>?_|refine wK ?_|refine wF ?_|refine au zs ?_|refine ay zs ?_|(refine hK _ ?_;clear hK K))|simp only[go_sem,a0,u]|with_reducible refine wA ?_|(refine aW rfl ?_)|(refine aP rfl rfl ?_)|(refine aE rfl ?_)|clear hK K));(iterate 8 (try revert K));exact h.1):p:=f ⟨h⟩ a0 u
theorem Vl{p e0 u:Prop}(a0:e0)(q:u)(f:e0->u->p:=by intro a0 q;(repeat(first|(with_reducible first|refine bG.up ?_|refineλ(K:AK)hK=>?_|refine wK ?_|refine wF ?_|refine au zs ?_|refine ay zs ?_|(refine hK _ ?_;clear hK K))|simp only[go_sem,a0,q]|with_reducible refine wA ?_|(refine aW rfl ?_)|(refine aP rfl rfl ?_)|(refine aE rfl ?_)|clear hK K))<;>fail):p:=f a0 q
theorem bj{p q:Prop}(h:q)(f:gQ q->p:=by intro h;(repeat(first|(with_reducible first|refine bG.up ?_|refineλ(K:AK)hK=>?_|refine wE ?_|refine wD ?_|refine wK ?_|refine wF ?_|refine au zs ?_|refine ay zs ?_|(refine hK _ ?_;clear hK K))|simp only[go_sem]|with_reducible refine wA ?_|(refine aW rfl ?_)|(refine aP rfl rfl ?_)|(refine aE rfl ?_)|clear hK K));(iterate 8 (try revert K));exact h.1):p:=f ⟨h⟩
theorem E8{p:Prop}(f:p:=by(repeat(first|(with_reducible first|refine bG.up ?_|refineλ(K:AK)hK=>?_|refine wE ?_|refine wD ?_|refine wK ?_|refine wF ?_|refine au zs ?_|refine ay zs ?_|(refine hK _ ?_;clear hK K))|simp only[go_sem]|with_reducible refine wA ?_|(refine aW rfl ?_)|(refine aP rfl rfl ?_)|(refine aE rfl ?_)|clear hK K))<;>fail):p:=f
theorem aM{p q e0:Prop}(a0:e0)(h:q)(f:gQ q->e0->p:=by intro h a0;(repeat(first|(with_reducible first|refine bG.up ?_|refineλ(K:AK)hK=>?_|refine wE ?_|refine wD ?_|refine wK ?_|refine wF ?_|refine au zs ?_|refine ay zs ?_|(refine hK _ ?_;clear hK K))|simp only[go_sem,a0]|with_reducible refine wA ?_|(refine aW rfl ?_)|(refine aP rfl rfl ?_)|(refine aE rfl ?_)|clear hK K));(iterate 8 (try revert K));exact h.1):p:=f ⟨h⟩ a0
theorem Y4{p e0:Prop}(a0:e0)(f:e0->p:=by intro a0;(repeat(first|(with_reducible first|refine bG.up ?_|refineλ(K:AK)hK=>?_|refine wE ?_|refine wD ?_|refine wK ?_|refine wF ?_|refine au zs ?_|refine ay zs ?_|(refine hK _ ?_;clear hK K))|simp only[go_sem,a0]|with_reducible refine wA ?_|(refine aW rfl ?_)|(refine aP rfl rfl ?_)|(refine aE rfl ?_)|clear hK K))<;>fail):p:=f a0
theorem Pf{p q:Prop}(h:q)(f:gQ q->p:=by intro h;(repeat(first|(with_reducible first|refine bG.up ?_|refineλ(K:AK)hK=>?_|refine wK ?_|refine wF ?_|refine au zs ?_|refine ay zs ?_|(refine hK _ ?_;clear hK K))|simp only[go_sem,Go.undef]|with_reducible refine wA ?_|(refine aW rfl ?_)|(refine aP rfl rfl ?_)|(refine aE rfl ?_)|clear hK K));(iterate 8 (try revert K));exact h.1):p:=f ⟨h⟩
theorem dj{p q e0:Prop}(a0:e0)(h:q)(f:gQ q->e0->p:=by intro h a0;(repeat(first|(with_reducible first|refine bG.up ?_|refineλ(K:AK)hK=>?_|refine wK ?_|refine wF ?_|refine au zs ?_|refine ay zs ?_|(refine hK _ ?_;clear hK K))|simp only[go_sem,Go.undef,a0]|with_reducible refine wA ?_|(refine aW rfl ?_)|(refine aP rfl rfl ?_)|(refine aE rfl ?_)|clear hK K));(iterate 8 (try revert K));exact h.1):p:=f ⟨h⟩ a0
theorem E9{p e0:Prop}(a0:e0)(f:e0->p:=by intro a0;(repeat(first|(with_reducible first|refine bG.up ?_|refineλ(K:AK)hK=>?_|refine wK ?_|refine wF ?_|refine au zs ?_|refine ay zs ?_|(refine hK _ ?_;clear hK K))|simp only[go_sem,Go.undef,a0]|with_reducible refine wA ?_|(refine aW rfl ?_)|(refine aP rfl rfl ?_)|(refine aE rfl ?_)|clear hK K))<;>fail):p:=f a0
theorem Y0{p q:Prop}(h:q)(f:gQ q->p:=by intro h;(repeat(first|(with_reducible first|refine bG.up ?_|refineλ(K:AK)hK=>?_|refine wE ?_|refine wD ?_|refine wK ?_|refine wF ?_|refine au zs ?_|refine ay zs ?_|(refine hK _ ?_;clear hK K))|simp only[go_sem,Go.undef]|with_reducible refine wA ?_|(refine aW rfl ?_)|(refine aP rfl rfl ?_)|(refine aE rfl ?_)|clear hK K));(iterate 8 (try revert K));exact h.1):p:=f ⟨h⟩
theorem cw{p q e0:Prop}(a0:e0)(h:q)(f:gQ q->e0->p:=by intro h a0;(repeat(first|(with_reducible first|refine bG.up ?_|refineλ(K:AK)hK=>?_|refine wE ?_|refine wD ?_|refine wK ?_|refine wF ?_|refine au zs ?_|refine ay zs ?_|(refine hK _ ?_;clear hK K))|simp only[go_sem,Go.undef,a0]|with_reducible refine wA ?_|(refine aW rfl ?_)|(refine aP rfl rfl ?_)|(refine aE rfl ?_)|clear hK K));(iterate 8 (try revert K));exact h.1):p:=f ⟨h⟩ a0
theorem pF{p q e0:Prop}(a0:e0)(h:q)(f:gQ q->e0->p:=by intro h a0;(repeat(first|(with_reducible first|refine bG.up ?_|refineλ(K:AK)hK=>?_|refine wE ?_|refine wD ?_|refine wK ?_|refine wF ?_|refine au zs ?_|refine ay zs ?_|(refine hK _ ?_;clear hK K))|simp only[go_sem,List.length_append,a0]|with_reducible refine wA ?_|(refine aW rfl ?_)|(refine aP rfl rfl ?_)|(refine aE rfl ?_)|clear hK K));(iterate 8 (try revert K));exact h.1):p:=f ⟨h⟩ a0
theorem E5{p q e0:Prop}(a0:e0)(h:q)(f:gQ q->e0->p:=by intro h a0;(repeat(first|(with_reducible first|refine bG.up ?_|refineλ(K:AK)hK=>?_|refine wE ?_|refine wD ?_|refine wK ?_|refine wF ?_|refine au zs ?_|refine ay zs ?_|(refine hK _ ?_;clear hK K))|simp only[go_sem,Go.undef,List.length_append,a0]|with_reducible refine wA ?_|(refine aW rfl ?_)|(refine aP rfl rfl ?_)|(refine aE rfl ?_)|clear hK K));(iterate 8 (try revert K));exact h.1):p:=f ⟨h⟩ a0
theorem yn{p q e0:Prop}(a0:e0)(h:q)(f:gQ q->e0->p:=by intro h a0;(repeat(first|(with_reducible first|refine bG.up ?_|refineλ(K:AK)hK=>?_|refine wE ?_|refine wD ?_|refine wK ?_|refine wF ?_|refine au zs ?_|refine ay zs ?_|(refine hK _ ?_;clear hK K))|simp only[go_sem,List.drop_succ_cons,List.drop_zero,a0]|with_reducible refine wA ?_|(refine aW rfl ?_)|(refine aP rfl rfl ?_)|(refine aE rfl ?_)|clear hK K));(iterate 8 (try revert K));exact h.1):p:=f ⟨h⟩ a0
theorem E6{p q e0:Prop}(a0:e0)(h:q)(f:gQ q->e0->p:=by intro h a0;(repeat(first|(with_reducible first|refine bG.up ?_|refineλ(K:AK)hK=>?_|refine wK ?_|refine wF ?_|refine au zs ?_|refine ay zs ?_|(refine hK _ ?_;clear hK K))|simp only[go_sem,List.length_map,a0]|with_reducible refine wA ?_|(refine aW rfl ?_)|(refine aP rfl rfl ?_)|(refine aE rfl ?_)|clear hK K));(iterate 8 (try revert K));exact h.1):p:=f ⟨h⟩ a0
theorem Cu{p q e0:Prop}(a0:e0)(h:q)(f:gQ q->e0->p:=by intro h a0;(repeat(first|(with_reducible first|refine bG.up ?_|refineλ(K:AK)hK=>?_|refine wE ?_|refine wD ?_|refine wK ?_|refine wF ?_|refine au zs ?_|refine ay zs ?_|(refine hK _ ?_;clear hK K))|simp only[go_sem,Go.undef,List.drop_succ_cons,List.drop_zero,a0]|with_reducible refine wA ?_|(refine aW rfl ?_)|(refine aP rfl rfl ?_)|(refine aE rfl ?_)|clear hK K));(iterate 8 (try revert K));exact h.1):p:=f ⟨h⟩ a0
theorem Cv{p q e0:Prop}(a0:e0)(h:q)(f:gQ q->e0->p:=by intro h a0;(repeat(first|(with_reducible first|refine bG.up ?_|refineλ(K:AK)hK=>?_|refine wK ?_|refine wF ?_|refine au zs ?_|refine ay zs ?_|(refine hK _ ?_;clear hK K))|simp only[go_sem,List.drop_succ_cons,List.drop_zero,a0]|with_reducible refine wA ?_|(refine aW rfl ?_)|(refine aP rfl rfl ?_)|(refine aE rfl ?_)|clear hK K));(iterate 8 (try revert K));exact h.1):p:=f ⟨h⟩ a0
theorem Pe{p q e0:Prop}(a0:e0)(h:q)(f:gQ q->e0->p:=by intro h a0;(repeat(first|(with_reducible first|refine bG.up ?_|refineλ(K:AK)hK=>?_|refine wK ?_|refine wF ?_|refine au zs ?_|refine ay zs ?_|(refine hK _ ?_;clear hK K))|simp only[go_sem,List.length_set,a0]|with_reducible refine wA ?_|(refine aW rfl ?_)|(refine aP rfl rfl ?_)|(refine aE rfl ?_)|clear hK K));(iterate 8 (try revert K));exact h.1):p:=f ⟨h⟩ a0
theorem aK{p q C:Prop}(c:C)(h:q)(f:C->gQ q->p:=by intro c h;(repeat(refineλ(K:AK)hK=>?_));refine ai.one c ?_;(repeat(first|(with_reducible first|refine bG.up ?_|refineλ(K:AK)hK=>?_|refine wK ?_|refine wF ?_|refine au zs ?_|refine ay zs ?_|(refine hK _ ?_;clear hK K))|simp only[go_sem]|with_reducible refine wA ?_|(refine aW rfl ?_)|(refine aP rfl rfl ?_)|(refine aE rfl ?_)|clear hK K));(iterate 8 (try revert K));exact h.1):p:=f c ⟨h⟩
theorem lE{p C:Prop}(c:C)(f:C->p:=by intro c;(repeat(refineλ(K:AK)hK=>?_));refine ai.one c ?_;(repeat(first|(with_reducible first|refine bG.up ?_|refineλ(K:AK)hK=>?_|refine wK ?_|refine wF ?_|refine au zs ?_|refine ay zs ?_|(refine hK _ ?_;clear hK K))|simp only[go_sem]|with_reducible refine wA ?_|(refine aW rfl ?_)|(refine aP rfl rfl ?_)|(refine aE rfl ?_)|clear hK K))<;>fail):p:=f c
theorem Ie{p q C e0:Prop}(c:C)(a0:e0)(h:q)(f:C->gQ q->e0->p:=by intro c h a0;(repeat(refineλ(K:AK)hK=>?_));refine b8.one c ?_;(repeat(first|(with_reducible first|refine bG.up ?_|refineλ(K:AK)hK=>?_|refine wK ?_|refine wF ?_|refine au zs ?_|refine ay zs ?_|(refine hK _ ?_;clear hK K))|simp only[go_sem,a0]|with_reducible refine wA ?_|(refine aW rfl ?_)|(refine aP rfl rfl ?_)|(refine aE rfl ?_)|clear hK K));(iterate 8 (try revert K));exact h.1):p:=f c ⟨h⟩ a0
theorem dA{p q C e0:Prop}(c:C)(a0:e0)(h:q)(f:C->gQ q->e0->p:=by intro c h a0;(repeat(refineλ(K:AK)hK=>?_));refine ai.one c ?_;(repeat(first|(with_reducible first|refine bG.up ?_|refineλ(K:AK)hK=>?_|refine wK ?_|refine wF ?_|refine au zs ?_|refine ay zs ?_|(refine hK _ ?_;clear hK K))|simp only[go_sem,a0]|with_reducible refine wA ?_|(refine aW rfl ?_)|(refine aP rfl rfl ?_)|(refine aE rfl ?_)|clear hK K));(iterate 8 (try revert K));exact h.1):p:=f c ⟨h⟩ a0
theorem Ph{p C e0:Prop}(c:C)(a0:e0)(f:C->e0->p:=by intro c a0;(repeat(refineλ(K:AK)hK=>?_));refine ai.one c ?_;(repeat(first|(with_reducible first|refine bG.up ?_|refineλ(K:AK)hK=>?_|refine wK ?_|refine wF ?_|refine au zs ?_|refine ay zs ?_|(refine hK _ ?_;clear hK K))|simp only[go_sem,a0]|with_reducible refine wA ?_|(refine aW rfl ?_)|(refine aP rfl rfl ?_)|(refine aE rfl ?_)|clear hK K))<;>fail):p:=f c a0
theorem Pg{p q C e0 A:Prop}(c:C)(a0:e0)(u:A)(h:q)(f:C->gQ q->e0->A->p:=by intro c h a0 u;(repeat(refineλ(K:AK)hK=>?_));refine ai.one c ?_;(repeat(first|(with_reducible first|refine bG.up ?_|refineλ(K:AK)hK=>?_|refine wK ?_|refine wF ?_|refine au zs ?_|refine ay zs ?_|(refine hK _ ?_;clear hK K))|simp only[go_sem,a0,u]|with_reducible refine wA ?_|(refine aW rfl ?_)|(refine aP rfl rfl ?_)|(refine aE rfl ?_)|clear hK K));(iterate 8 (try revert K));exact h.1):p:=f c ⟨h⟩ a0 u
theorem Cx{p C e0 u:Prop}(c:C)(a0:e0)(q:u)(f:C->e0->u->p:=by intro c a0 q;(repeat(refineλ(K:AK)hK=>?_));refine ai.one c ?_;(repeat(first|(with_reducible first|refine bG.up ?_|refineλ(K:AK)hK=>?_|refine wK ?_|refine wF ?_|refine au zs ?_|refine ay zs ?_|(refine hK _ ?_;clear hK K))|simp only[go_sem,a0,q]|with_reducible refine wA ?_|(refine aW rfl ?_)|(refine aP rfl rfl ?_)|(refine aE rfl ?_)|clear hK K))<;>fail):p:=f c a0 q
theorem rM{p q C:Prop}(c:C)(h:q)(f:C->gQ q->p:=by intro c h;(repeat(refineλ(K:AK)hK=>?_));refine b8.one c ?_;(repeat(first|(with_reducible first|refine bG.up ?_|refineλ(K:AK)hK=>?_|refine wE ?_|refine wD ?_|refine wK ?_|refine wF ?_|refine au zs ?_|refine ay zs ?_|(refine hK _ ?_;clear hK K))|simp only[go_sem]|with_reducible refine wA ?_|(refine aW rfl ?_)|(refine aP rfl rfl ?_)|(refine aE rfl ?_)|clear hK K));(iterate 8 (try revert K));exact h.1):p:=f c ⟨h⟩
theorem Wj{p C:Prop}(c:C)(f:C->p:=by intro c;(repeat(refineλ(K:AK)hK=>?_));refine b8.one c ?_;(repeat(first|(with_reducible first|refine bG.up ?_|refineλ(K:AK)hK=>?_|refine wE ?_|refine wD ?_|refine wK ?_|refine wF ?_|refine au zs ?_|refine ay zs ?_|(refine hK _ ?_;clear hK K))|simp only[go_sem]|with_reducible refine wA ?_|(refine aW rfl ?_)|(refine aP rfl rfl ?_)|(refine aE rfl ?_)|clear hK K))<;>fail):p:=f c
theorem lD{p q C:Prop}(c:C)(h:q)(f:C->gQ q->p:=by intro c h;(repeat(refineλ(K:AK)hK=>?_));refine ai.one c ?_;(repeat(first|(with_reducible first|refine bG.up ?_|refineλ(K:AK)hK=>?_|refine wE ?_|refine wD ?_|refine wK ?_|refine wF ?_|refine au zs ?_|refine ay zs ?_|(refine hK _ ?_;clear hK K))|simp only[go_sem]|with_reducible refine wA ?_|(refine aW rfl ?_)|(refine aP rfl rfl ?_)|(refine aE rfl ?_)|clear hK K));(iterate 8 (try revert K));exact h.1):p:=f c ⟨h⟩
theorem uK{p q C e0:Prop}(c:C)(a0:e0)(h:q)(f:C->gQ q->e0->p:=by intro c h a0;(repeat(refineλ(K:AK)hK=>?_));refine b8.one c ?_;(repeat(first|(with_reducible first|refine bG.up ?_|refineλ(K:AK)hK=>?_|refine wE ?_|refine wD ?_|refine wK ?_|refine wF ?_|refine au zs ?_|refine ay zs ?_|(refine hK _ ?_;clear hK K))|simp only[go_sem,a0]|with_reducible refine wA ?_|(refine aW rfl ?_)|(refine aP rfl rfl ?_)|(refine aE rfl ?_)|clear hK K));(iterate 8 (try revert K));exact h.1):p:=f c ⟨h⟩ a0
theorem Cw{p q C e0:Prop}(c:C)(a0:e0)(h:q)(f:C->gQ q->e0->p:=by intro c h a0;(repeat(refineλ(K:AK)hK=>?_));refine ai.one c ?_;(repeat(first|(with_reducible first|refine bG.up ?_|refineλ(K:AK)hK=>?_|refine wE ?_|refine wD ?_|refine wK ?_|refine wF ?_|refine au zs ?_|refine ay zs ?_|(refine hK _ ?_;clear hK K))|simp only[go_sem,a0]|with_reducible refine wA ?_|(refine aW rfl ?_)|(refine aP rfl rfl ?_)|(refine aE rfl ?_)|clear hK K));(iterate 8 (try revert K));exact h.1):p:=f c ⟨h⟩ a0
theorem je{p q C:Prop}(c:C)(h:q)(f:C->gQ q->p:=by intro c h;(repeat(refineλ(K:AK)hK=>?_));refine ai.one c ?_;(repeat(first|(with_reducible first|refine bG.up ?_|refineλ(K:AK)hK=>?_|refine wK ?_|refine wF ?_|refine au zs ?_|refine ay zs ?_|(refine hK _ ?_;clear hK K))|simp only[go_sem,Go.undef]|with_reducible refine wA ?_|(refine aW rfl ?_)|(refine aP rfl rfl ?_)|(refine aE rfl ?_)|clear hK K));(iterate 8 (try revert K));exact h.1):p:=f c ⟨h⟩
theorem Ig{p C:Prop}(c:C)(f:C->p:=by intro c;(repeat(refineλ(K:AK)hK=>?_));refine ai.one c ?_;(repeat(first|(with_reducible first|refine bG.up ?_|refineλ(K:AK)hK=>?_|refine wK ?_|refine wF ?_|refine au zs ?_|refine ay zs ?_|(refine hK _ ?_;clear hK K))|simp only[go_sem,Go.undef]|with_reducible refine wA ?_|(refine aW rfl ?_)|(refine aP rfl rfl ?_)|(refine aE rfl ?_)|clear hK K))<;>fail):p:=f c
theorem uL{p q C e0:Prop}(c:C)(a0:e0)(h:q)(f:C->gQ q->e0->p:=by intro c h a0;(repeat(refineλ(K:AK)hK=>?_));refine b8.one c ?_;(repeat(first|(with_reducible first|refine bG.up ?_|refineλ(K:AK)hK=>?_|refine wE ?_|refine wD ?_|refine wK ?_|refine wF ?_|refine au zs ?_|refine ay zs ?_|(refine hK _ ?_;clear hK K))|simp only[go_sem,Go.undef,a0]|with_reducible refine wA ?_|(refine aW rfl ?_)|(refine aP rfl rfl ?_)|(refine aE rfl ?_)|clear hK K));(iterate 8 (try revert K));exact h.1):p:=f c ⟨h⟩ a0
theorem dG(i:Nat){p q:Prop}(h:q)(f:gI i->gQ q->p:=by intro s h;(repeat((fail_if_success (with_reducible refine gR s ?_));first|(with_reducible first|refine bG.up ?_|refineλ(K:AK)hK=>?_|refine wK ?_|refine wF ?_|refine au zs ?_|refine ay zs ?_|(refine hK _ ?_;clear hK K))|simp only[go_sem]|with_reducible refine wA ?_|(refine aW rfl ?_)|(refine aP rfl rfl ?_)|(refine aE rfl ?_)|clear hK K));(iterate 8 (try revert K));exact h.1):p:=f ⟨⟩ ⟨h⟩
theorem jf(i:Nat){p q e0:Prop}(a0:e0)(h:q)(f:gI i->gQ q->e0->p:=by intro s h a0;(repeat((fail_if_success (with_reducible refine gR s ?_));first|(with_reducible first|refine bG.up ?_|refineλ(K:AK)hK=>?_|refine wK ?_|refine wF ?_|refine au zs ?_|refine ay zs ?_|(refine hK _ ?_;clear hK K))|simp only[go_sem,a0]|with_reducible refine wA ?_|(refine aW rfl ?_)|(refine aP rfl rfl ?_)|(refine aE rfl ?_)|clear hK K));(iterate 8 (try revert K));exact h.1):p:=f ⟨⟩ ⟨h⟩ a0
theorem Pj(i:Nat){p q e0 A:Prop}(a0:e0)(u:A)(h:q)(f:gI i->gQ q->e0->A->p:=by intro s h a0 u;(repeat((fail_if_success (with_reducible refine gR s ?_));first|(with_reducible first|refine bG.up ?_|refineλ(K:AK)hK=>?_|refine wK ?_|refine wF ?_|refine au zs ?_|refine ay zs ?_|(refine hK _ ?_;clear hK K))|simp only[go_sem,a0,u]|with_reducible refine wA ?_|(refine aW rfl ?_)|(refine aP rfl rfl ?_)|(refine aE rfl ?_)|clear hK K));(iterate 8 (try revert K));exact h.1):p:=f ⟨⟩ ⟨h⟩ a0 u
theorem Y2(i:Nat){p q:Prop}(h:q)(f:gI i->gQ q->p:=by intro s h;(repeat((fail_if_success (with_reducible refine gR s ?_));first|(with_reducible first|refine bG.up ?_|refineλ(K:AK)hK=>?_|refine wK ?_|refine wF ?_|refine au zs ?_|refine ay zs ?_|(refine hK _ ?_;clear hK K))|simp only[go_sem,Go.undef]|with_reducible refine wA ?_|(refine aW rfl ?_)|(refine aP rfl rfl ?_)|(refine aE rfl ?_)|clear hK K));(iterate 8 (try revert K));exact h.1):p:=f ⟨⟩ ⟨h⟩
theorem Y3(i:Nat){p q e0:Prop}(a0:e0)(h:q)(f:gI i->gQ q->e0->p:=by intro s h a0;(repeat((fail_if_success (with_reducible refine gR s ?_));first|(with_reducible first|refine bG.up ?_|refineλ(K:AK)hK=>?_|refine wK ?_|refine wF ?_|refine au zs ?_|refine ay zs ?_|(refine hK _ ?_;clear hK K))|simp only[go_sem,Go.undef,a0]|with_reducible refine wA ?_|(refine aW rfl ?_)|(refine aP rfl rfl ?_)|(refine aE rfl ?_)|clear hK K));(iterate 8 (try revert K));exact h.1):p:=f ⟨⟩ ⟨h⟩ a0
theorem AG(i:Nat){p q e0:Prop}(a0:e0)(h:q)(f:gI i->gQ q->e0->p:=by intro s h a0;(repeat((fail_if_success (with_reducible refine gR s ?_));first|(with_reducible first|refine bG.up ?_|refineλ(K:AK)hK=>?_|refine wE ?_|refine wD ?_|refine wK ?_|refine wF ?_|refine au zs ?_|refine ay zs ?_|(refine hK _ ?_;clear hK K))|simp only[go_sem,Go.undef,a0]|with_reducible refine wA ?_|(refine aW rfl ?_)|(refine aP rfl rfl ?_)|(refine aE rfl ?_)|clear hK K));(iterate 8 (try revert K));exact h.1):p:=f ⟨⟩ ⟨h⟩ a0
theorem ar{p:Prop}(f:p:=by simp only[bP,List.foldl_cons,List.foldl_nil,List.replicate_succ,List.replicate_zero,iV,zQ,AV.v.injEq,Value.int.injEq,Value.bool.injEq,Value.string.injEq,AV.vec.injEq,AV.ptr.injEq,true_or,or_true,false_or,or_false,aa.mk.injEq,forall_eq_apply_imp_iff,forall_eq,forall_eq',go_sem]<;>fail):p:=f
theorem bJ{r p:Prop}(h:r)(f:r->p:=by intro h;simp only[bP,List.foldl_cons,List.foldl_nil,List.replicate_succ,List.replicate_zero,iV,zQ,AV.v.injEq,Value.int.injEq,Value.bool.injEq,Value.string.injEq,AV.vec.injEq,AV.ptr.injEq,true_or,or_true,false_or,or_false,aa.mk.injEq,forall_eq_apply_imp_iff,forall_eq,forall_eq',go_sem];exact h):p:=f h
theorem ek{p:Prop}(f:p:=by simp only[iV,zQ,AV.v.injEq,Value.int.injEq,Value.bool.injEq,Value.string.injEq,AV.vec.injEq,AV.ptr.injEq,true_or,or_true,false_or,or_false,aa.mk.injEq,forall_eq_apply_imp_iff,forall_eq,forall_eq',go_sem]<;>fail):p:=f
theorem AL{r p:Prop}(h:r)(f:r->p:=by intro h;simp only[iV,zQ,AV.v.injEq,Value.int.injEq,Value.bool.injEq,Value.string.injEq,AV.vec.injEq,AV.ptr.injEq,true_or,or_true,false_or,or_false,aa.mk.injEq,forall_eq_apply_imp_iff,forall_eq,forall_eq',go_sem];exact h):p:=f h
theorem rL{e0 q:Prop}(a0:e0)(u:q):e0∧q:=⟨a0,u⟩
theorem nq{e0 u q:Prop}(a0:e0)(A:u)(a2:q):e0∧u∧q:=⟨a0,A,a2⟩
theorem pG{e0 A u q:Prop}(a0:e0)(H:A)(a2:u)(a3:q):e0∧A∧u∧q:=⟨a0,H,a2,a3⟩
theorem qq{e0 H A u q:Prop}(a0:e0)(O:H)(a2:A)(a3:u)(a4:q):e0∧H∧A∧u∧q:=⟨a0,O,a2,a3,a4⟩
theorem oT{e0 O H A u q:Prop}(a0:e0)(U:O)(a2:H)(a3:A)(a4:u)(a5:q):e0∧O∧H∧A∧u∧q:=⟨a0,U,a2,a3,a4,a5⟩
theorem L7{e0 U O H A u q:Prop}(a0:e0)(W:U)(a2:O)(a3:H)(a4:A)(a5:u)(V:q):e0∧U∧O∧H∧A∧u∧q:=⟨a0,W,a2,a3,a4,a5,V⟩
theorem Y1{e0 V U O H A u q:Prop}(a0:e0)(a1:V)(a2:U)(a3:O)(a4:H)(a5:A)(Y:u)(W:q):e0∧V∧U∧O∧H∧A∧u∧q:=⟨a0,a1,a2,a3,a4,a5,Y,W⟩
theorem gB9{e0 W V U O H A u q:Prop}(a0:e0)(a1:W)(a2:V)(a3:U)(a4:O)(a5:H)(a6:A)(a7:u)(Y:q):e0∧W∧V∧U∧O∧H∧A∧u∧q:=⟨a0,a1,a2,a3,a4,a5,a6,a7,Y⟩
theorem cq{p q:Prop}(h:p)(f:p->q:=by intro h;(try simp only[bne_iff_ne,ne_eq,bne_eq_false_iff_eq,beq_iff_eq,beq_eq_false_iff_ne,decide_eq_true_eq,decide_eq_false_iff_not,Bool.not_eq_eq_eq_not,Int.natCast_inj,Int.ofNat_lt,Int.ofNat_le]at h);exact h):q:=f h
theorem qs{p q:Prop}(h:p)(f:p->q:=by intro h;(try simp only[decide_eq_true_eq,decide_eq_false_iff_not,Int.ofNat_lt]at h);exact h):q:=f h
theorem gH2{p q:Prop}(h:p)(f:p->q:=by intro h;(try simp only[decide_eq_true_eq,decide_eq_false_iff_not,Int.ofNat_le]at h);exact h):q:=f h
theorem gE{p q e0 H A:Prop}(a0:e0)(u:H)(a2:A)(h:q)(f:e0->H->A->q->p:=by intro a0 u a2 h;refine aj.enter a0 rfl zo zo rfl (by first|rfl|(simp only[go_sem,Bool.and_self,Bool.and_true,Bool.true_and])) (by first|rfl|(simp only[go_sem,Bool.and_self,Bool.and_true,Bool.true_and])) ?_;simp only[u,a2,List.length_cons,List.length_nil,Nat.reduceAdd,Nat.reduceSub,List.replicate_succ,List.replicate_zero,List.cons_append,List.nil_append];exact h):p:=f a0 u a2 h
theorem gF{p q e0 H A:Prop}(a0:e0)(u:H)(a2:A)(h:q)(f:e0->H->A->q->p:=by intro a0 u a2 h;refine bR.enter a0 rfl zo zo rfl ?_;simp only[u,a2,List.length_cons,List.length_nil,Nat.reduceAdd,Nat.reduceSub,List.replicate_succ,List.replicate_zero,List.cons_append,List.nil_append];exact h):p:=f a0 u a2 h
end Go.Proofs.YtlhhccmopfamhaaGreatDoor
